/- Layer 7: Reach and Needs told. No condition. -/
import Derived.Test.YtoemnjclhheeoaaP07
namespace Go.Proofs.Ytoemnjclhheeoaa.Ai
open Go Go.Ai
set_option linter.unusedSimpArgs false
set_option linter.unusedVariables false

def cellsB (l : List Bool) : List AV := l.map litB
theorem cellsB_len (l : List Bool) : (cellsB l).length = l.length := by simp [cellsB]
theorem cellsB_get (l : List Bool) (n : Nat) : (cellsB l)[n]? = (l[n]?).map litB := by simp [cellsB]
theorem cellsB_set (l : List Bool) (n : Nat) (b : Bool) : (cellsB l).set n (litB b) = cellsB (l.set n b) := by simp [cellsB]
theorem cellsI_get (l : List Int) (n : Nat) : (cellsI l)[n]? = (l[n]?).map (litI .i64) := by simp [cellsI]

/-- A slice of ints that lies in some object but the first, or none. -/
def StkOk (H : List AO) (A : AV) (stk : List Int) : Prop :=
  (A = .sl 0 [] (some 0) ∧ stk = []) ∨ ∃ r cs, r ≠ 0 ∧ A = .own r 0 stk.length 1 none ∧ H[r]? = some (.row cs 3) ∧ cs.take stk.length = cellsI stk ∧ stk.length ≤ cs.length

theorem StkOk.lenV {H : List AO} {A : AV} {stk : List Int} (h : StkOk H A stk) : Ai.lenV A = some (litI .i64 stk.length) := by
  rcases h with ⟨rfl, rfl⟩ | ⟨r, cs, _, rfl, _⟩ <;> rfl

theorem few_row {g : List (List Int)} (hf : fewG g = true) {k : Nat} {row : List Int} (h : g[k]? = some row) : row.length ≤ 40 := by
  simp only [fewG, Bool.and_eq_true, List.all_eq_true, decide_eq_true_eq] at hf
  exact hf.2 _ (List.mem_of_getElem? h)
theorem few_len {g : List (List Int)} (hf : fewG g = true) : g.length ≤ 20 := by
  simp only [fewG, Bool.and_eq_true, decide_eq_true_eq] at hf
  exact hf.1
theorem need_rng {g : List (List Int)} : ∀ k z, z ∈ need g k → 0 ≤ z ∧ z < g.length := by
  intro k z h
  cases hg : g[k]? with
  | none => unfold need at h; rw [hg] at h; cases h
  | some row => exact ((mem_need hg z).1 h).2
theorem need_40 {g : List (List Int)} (hf : fewG g = true) : ∀ k, (need g k).length ≤ 40 := by
  intro k
  cases hg : g[k]? with
  | none => unfold need; rw [hg]; exact Nat.zero_le _
  | some row => exact Nat.le_trans (need_len hg) (few_row hf hg)

theorem reach_loop (g : List (List Int)) (hf : fewG g = true) : ∀ (m : Nat) (out : List Bool) (stk : List Int) (A : AV) (H : List AO), left out stk ≤ m → out.length = g.length → (∀ k ∈ stk, 0 ≤ k ∧ k < g.length) →
    H[0]? = some (.row (cellsB out) 4) → StkOk H A stk → left out stk ≤ 1000 →
    ∃ A' H', loopW (codeW cw (lookM mtl) mds c12l0) [0, 5, 6] [(0, gA g), (5, .own 0 0 g.length 1 (some g.length)), (6, A)] H = some (EX.exit 0, [(0, gA g), (5, .own 0 0 g.length 1 (some g.length)), (6, A'), (25, litB false)], H') ∧
      H'[0]? = some (.row (cellsB (dfs g m out stk)) 4) := by
  intro m
  induction m with
  | zero =>
    intro out stk A H hm hl hs h0 hA hb
    have : stk = [] := List.eq_nil_of_length_eq_zero (by unfold left at hm; omega)
    subst this
    refine ⟨A, H, loopW_out ?_ (by simp), h0⟩
    simp -implicitDefEqProofs only [c12l0, codeW_seq, codeW_reg, codeW_cond, codeW_block, codeW_loop, codeW_skip, codeW_exit, codeW_ret, thenS_normal, thenS_if, thenS_ret, thenS_exit, thenS_pan, thenS_none, blockS_normal, blockS_exit, blockS_ret, blockS_pan, blockS_if, condS_some, ifS_true, ifS_false, opS_val, opS_new, opS_wr, opS_fz, opS_pan, bindO_some, runS_nil, runS_cons, runS_guard, gS_t, gS_f, gS_undef, asG_lit, asG_undef, core_mv, core_pick, core_alloc, core_load, core_store, core_clr, core_nilck, core_bin, core_binb, core_un, core_fadr, core_iadr, core_sli, core_len, core_lenS, core_idxS, core_app, core_mki, core_call, core_extV, core_fld, core_mks, wrO_some, valO_some, lenV_sl, lenV_own, bin_eql, bin_neq, bin_lss, bin_leq, bin_gtr, bin_geq, bin_add, bin_sub, bin_mul, unop_not, asBool_lit, pickV_lit, load_ip, iadr_sl, iadr_own, ev_s, ev_k, get_cons, get_nil, put_cons, put_nil, putD_some, putD_none, keep_cons, keep_nil, initFr, Nat.reduceEqDiff, Nat.reduceLT, Nat.reduceAdd, if_true, if_false, List.mem_cons, List.not_mem_nil, or_false, false_or, or_true, true_or, or_self, ↓reduceIte, Nat.zero_add, decide_false, decide_true, Nat.reduceBEq, beq_self_eq_true, BEq.rfl, Option.map_some, Option.map_none, List.head?_cons, List.map_cons, List.map_nil, List.append_nil, List.nil_append, List.cons_append, Bool.not_true, Bool.not_false, cond_true, cond_false, Int.natCast_nonneg, Int.toNat_natCast, Int.ofNat_toNat, core_bslice1, bsV_int, codeW_drawn, headS_cons, headS_nil, headS_guard, hS_val, hS_new, tailS_nil, tailS_cons, tailS_guard, tlS_val, tlS_new, tlS_wr, tlS_fz, tlS_pan, anyMk_cons, anyMk_nil, makes, binb_eql, binb_neq, List.isEmpty_nil, List.isEmpty_cons, Bool.or_false, Bool.false_or, Bool.or_true, Bool.true_or, pickV_t, pickV_f, hA.lenV, List.length_nil, Int.ofNat_zero, Int.lt_irrefl]
  | succ m ih =>
    intro out stk A H hm hl hs h0 hA hb
    cases hg : stk.getLast? with
    | none =>
      have : stk = [] := by simpa using hg
      subst this
      simp only [dfs, hg]
      refine ⟨A, H, loopW_out ?_ (by simp), h0⟩
      simp -implicitDefEqProofs only [c12l0, codeW_seq, codeW_reg, codeW_cond, codeW_block, codeW_loop, codeW_skip, codeW_exit, codeW_ret, thenS_normal, thenS_if, thenS_ret, thenS_exit, thenS_pan, thenS_none, blockS_normal, blockS_exit, blockS_ret, blockS_pan, blockS_if, condS_some, ifS_true, ifS_false, opS_val, opS_new, opS_wr, opS_fz, opS_pan, bindO_some, runS_nil, runS_cons, runS_guard, gS_t, gS_f, gS_undef, asG_lit, asG_undef, core_mv, core_pick, core_alloc, core_load, core_store, core_clr, core_nilck, core_bin, core_binb, core_un, core_fadr, core_iadr, core_sli, core_len, core_lenS, core_idxS, core_app, core_mki, core_call, core_extV, core_fld, core_mks, wrO_some, valO_some, lenV_sl, lenV_own, bin_eql, bin_neq, bin_lss, bin_leq, bin_gtr, bin_geq, bin_add, bin_sub, bin_mul, unop_not, asBool_lit, pickV_lit, load_ip, iadr_sl, iadr_own, ev_s, ev_k, get_cons, get_nil, put_cons, put_nil, putD_some, putD_none, keep_cons, keep_nil, initFr, Nat.reduceEqDiff, Nat.reduceLT, Nat.reduceAdd, if_true, if_false, List.mem_cons, List.not_mem_nil, or_false, false_or, or_true, true_or, or_self, ↓reduceIte, Nat.zero_add, decide_false, decide_true, Nat.reduceBEq, beq_self_eq_true, BEq.rfl, Option.map_some, Option.map_none, List.head?_cons, List.map_cons, List.map_nil, List.append_nil, List.nil_append, List.cons_append, Bool.not_true, Bool.not_false, cond_true, cond_false, Int.natCast_nonneg, Int.toNat_natCast, Int.ofNat_toNat, core_bslice1, bsV_int, codeW_drawn, headS_cons, headS_nil, headS_guard, hS_val, hS_new, tailS_nil, tailS_cons, tailS_guard, tlS_val, tlS_new, tlS_wr, tlS_fz, tlS_pan, anyMk_cons, anyMk_nil, makes, binb_eql, binb_neq, List.isEmpty_nil, List.isEmpty_cons, Bool.or_false, Bool.false_or, Bool.or_true, Bool.true_or, pickV_t, pickV_f, hA.lenV, List.length_nil, Int.ofNat_zero, Int.lt_irrefl]
    | some k =>
      have hsplit : stk = stk.dropLast ++ [k] := by
        have hne : stk ≠ [] := by intro e; subst e; cases hg
        have := List.dropLast_concat_getLast hne
        rw [List.getLast?_eq_some_getLast hne] at hg
        simp only [Option.some.injEq] at hg
        rw [← hg]; exact this.symm
      have hpop := left_pop (out := out) hg
      have hmark := fun hk => left_mark (g := g) (out := out) hg hk (need_40 hf _)
      simp only [dfs, hg]
      generalize stk.dropLast = s at hsplit hpop hmark ⊢
      subst hsplit
      have hk := hs k (by simp)
      have hs' : ∀ z ∈ s, 0 ≤ z ∧ z < g.length := fun z hz => hs z (List.mem_append_left _ hz)
      rcases hA with ⟨_, h⟩ | ⟨r, cs, hr, rfl, hH, hcs, hle⟩
      · simp at h
      have hlen : (s ++ [k]).length = s.length + 1 := by simp
      rw [hlen] at hcs hle ⊢
      have hsm : s.length < 1000 := by unfold left at hb; rw [hlen] at hb; omega
      have hw : IntKind.wrap .i64 (((s.length + 1 : Nat) : Int) - 1) = (s.length : Int) := by rw [wrap_small] <;> omega
      have hlt0 : (0 : Int) < ((s.length + 1 : Nat) : Int) := by omega
      have hlt1 : (s.length : Int) < ((s.length + 1 : Nat) : Int) := by omega
      have hcg : cs[s.length]? = some (litI .i64 k) := by
        have : (cs.take (s.length + 1))[s.length]? = some (litI .i64 k) := by rw [hcs]; simp [cellsI]
        rw [List.getElem?_take, if_pos (by omega)] at this
        exact this
      have hcs' : cs.take s.length = cellsI s := by
        have := congrArg (List.take s.length) hcs
        rw [List.take_take, Nat.min_eq_left (by omega)] at this
        rw [this]
        simp [cellsI]
      have hsl : ∀ c, slice 1 (.own r 0 (s.length + 1) 1 c) none (some (litI .i64 (s.length : Int))) none = some (.own r 0 s.length 1 c) := by
        intro c
        rw [slice_own_to (by omega) (by omega)]
        simp
      have hkl : k.toNat < out.length := by omega
      obtain ⟨b, hb0⟩ : ∃ b, out[k.toNat]? = some b := ⟨_, List.getElem?_eq_getElem hkl⟩
      have hld : (cellsB out)[k.toNat]? = some (litB b) := by rw [cellsB_get, hb0]; rfl
      cases b with
      | true =>
        rw [hb0]
        obtain ⟨A', H', hL, h0'⟩ := ih out s (.own r 0 s.length 1 none) H (by omega) hl hs' h0 (.inr ⟨r, cs, hr, rfl, hH, hcs', by omega⟩) (by omega)
        refine ⟨A', H', loopW_next (fr1 := [(0, gA g), (5, .own 0 0 g.length 1 (some g.length)), (6, .own r 0 s.length 1 none), (7, litI .i64 k), (41, litB false)]) ?_ rfl hL, h0'⟩
        simp -implicitDefEqProofs only [c12l0, codeW_seq, codeW_reg, codeW_cond, codeW_block, codeW_loop, codeW_skip, codeW_exit, codeW_ret, thenS_normal, thenS_if, thenS_ret, thenS_exit, thenS_pan, thenS_none, blockS_normal, blockS_exit, blockS_ret, blockS_pan, blockS_if, condS_some, ifS_true, ifS_false, opS_val, opS_new, opS_wr, opS_fz, opS_pan, bindO_some, runS_nil, runS_cons, runS_guard, gS_t, gS_f, gS_undef, asG_lit, asG_undef, core_mv, core_pick, core_alloc, core_load, core_store, core_clr, core_nilck, core_bin, core_binb, core_un, core_fadr, core_iadr, core_sli, core_len, core_lenS, core_idxS, core_app, core_mki, core_call, core_extV, core_fld, core_mks, wrO_some, valO_some, lenV_sl, lenV_own, bin_eql, bin_neq, bin_lss, bin_leq, bin_gtr, bin_geq, bin_add, bin_sub, bin_mul, unop_not, asBool_lit, pickV_lit, load_ip, iadr_sl, iadr_own, ev_s, ev_k, get_cons, get_nil, put_cons, put_nil, putD_some, putD_none, keep_cons, keep_nil, initFr, Nat.reduceEqDiff, Nat.reduceLT, Nat.reduceAdd, if_true, if_false, List.mem_cons, List.not_mem_nil, or_false, false_or, or_true, true_or, or_self, ↓reduceIte, Nat.zero_add, decide_false, decide_true, Nat.reduceBEq, beq_self_eq_true, BEq.rfl, Option.map_some, Option.map_none, List.head?_cons, List.map_cons, List.map_nil, List.append_nil, List.nil_append, List.cons_append, Bool.not_true, Bool.not_false, cond_true, cond_false, Int.natCast_nonneg, Int.toNat_natCast, Int.ofNat_toNat, core_bslice1, bsV_int, codeW_drawn, headS_cons, headS_nil, headS_guard, hS_val, hS_new, tailS_nil, tailS_cons, tailS_guard, tlS_val, tlS_new, tlS_wr, tlS_fz, tlS_pan, anyMk_cons, anyMk_nil, makes, binb_eql, binb_neq, List.isEmpty_nil, List.isEmpty_cons, Bool.or_false, Bool.false_or, Bool.or_true, Bool.true_or, pickV_t, pickV_f, hlt0, hlt1, hw, load_ptr hH, hcg, hsl, hk.1, hk.2, and_self, and_true, true_and, load_ptr h0, hld, Nat.mul_one]
      | false =>
        rw [hb0]
        have hmk := hmark hb0
        have h0s : (setL H 0 (.row (cellsB (out.set k.toNat true)) 4))[0]? = some (.row (cellsB (out.set k.toNat true)) 4) := getH_set_eq h0
        have hHs : (setL H 0 (.row (cellsB (out.set k.toNat true)) 4))[r]? = some (.row cs 3) := by rw [getH_set_ne (Ne.symm hr)]; exact hH
        have hst : storeAt H 1 (.ptr 0 k.toNat) (litB true) = some (setL H 0 (.row (cellsB (out.set k.toNat true)) 4)) := by
          rw [store_ptr h0 (by rw [cellsB_len]; exact hkl) rfl rfl, cellsB_set]
        have hHlen : 0 < H.length := (List.getElem?_eq_some_iff.1 h0).1
        have hrlen : r < H.length := (List.getElem?_eq_some_iff.1 hH).1
        obtain ⟨row, hrow⟩ : ∃ row, g[k.toNat]? = some row := ⟨_, List.getElem?_eq_getElem (by omega)⟩
        have hneed : needG g row = need g k.toNat := by unfold need; rw [hrow]
        have hr40 := few_row hf hrow
        have kk : litI .i64 k = litI .i64 (k.toNat : Nat) := by rw [Int.toNat_of_nonneg hk.1]
        have hsets : out.set k.toNat true = out.set k.toNat true := rfl
        generalize hH1 : setL H 0 (.row (cellsB (out.set k.toNat true)) 4) = H1 at h0s hHs hst
        have hH1len : H1.length = H.length := by rw [← hH1, setL_len]
        by_cases hn : needG g row = []
        · have hc := fun id => needs_call0 g k.toNat row hrow (by omega) H1 id hn
          rw [← kk] at hc
          have hnd : need g k.toNat = [] := hneed ▸ hn
          rw [hnd, List.append_nil] at hmk ⊢
          obtain ⟨A', H', hL, h0'⟩ := ih (out.set k.toNat true) s (.own r 0 s.length 1 none) H1 (by omega) (by simpa using hl) hs' h0s (.inr ⟨r, cs, hr, rfl, hHs, hcs', by omega⟩) (by omega)
          refine ⟨A', H', loopW_round ?_ hL, h0'⟩
          simp -implicitDefEqProofs only [c12l0, codeW_seq, codeW_reg, codeW_cond, codeW_block, codeW_loop, codeW_skip, codeW_exit, codeW_ret, thenS_normal, thenS_if, thenS_ret, thenS_exit, thenS_pan, thenS_none, blockS_normal, blockS_exit, blockS_ret, blockS_pan, blockS_if, condS_some, ifS_true, ifS_false, opS_val, opS_new, opS_wr, opS_fz, opS_pan, bindO_some, runS_nil, runS_cons, runS_guard, gS_t, gS_f, gS_undef, asG_lit, asG_undef, core_mv, core_pick, core_alloc, core_load, core_store, core_clr, core_nilck, core_bin, core_binb, core_un, core_fadr, core_iadr, core_sli, core_len, core_lenS, core_idxS, core_app, core_mki, core_call, core_extV, core_fld, core_mks, wrO_some, valO_some, lenV_sl, lenV_own, bin_eql, bin_neq, bin_lss, bin_leq, bin_gtr, bin_geq, bin_add, bin_sub, bin_mul, unop_not, asBool_lit, pickV_lit, load_ip, iadr_sl, iadr_own, ev_s, ev_k, get_cons, get_nil, put_cons, put_nil, putD_some, putD_none, keep_cons, keep_nil, initFr, Nat.reduceEqDiff, Nat.reduceLT, Nat.reduceAdd, if_true, if_false, List.mem_cons, List.not_mem_nil, or_false, false_or, or_true, true_or, or_self, ↓reduceIte, Nat.zero_add, decide_false, decide_true, Nat.reduceBEq, beq_self_eq_true, BEq.rfl, Option.map_some, Option.map_none, List.head?_cons, List.map_cons, List.map_nil, List.append_nil, List.nil_append, List.cons_append, Bool.not_true, Bool.not_false, cond_true, cond_false, Int.natCast_nonneg, Int.toNat_natCast, Int.ofNat_toNat, core_bslice1, bsV_int, codeW_drawn, headS_cons, headS_nil, headS_guard, hS_val, hS_new, tailS_nil, tailS_cons, tailS_guard, tlS_val, tlS_new, tlS_wr, tlS_fz, tlS_pan, anyMk_cons, anyMk_nil, makes, binb_eql, binb_neq, List.isEmpty_nil, List.isEmpty_cons, Bool.or_false, Bool.false_or, Bool.or_true, Bool.true_or, pickV_t, pickV_f, hlt0, hlt1, hw, load_ptr hH, hcg, hsl, hk.1, hk.2, and_self, and_true, true_and, load_ptr h0, hld, Nat.mul_one, hst, hc, append_none]
        · obtain ⟨z, hc⟩ := needs_call1 g k.toNat row hrow (by omega) H1 H1.length hn
          rw [← kk] at hc
          have hpos : 0 < (needG g row).length := List.length_pos_iff.2 hn
          have hq : (H1 ++ [AO.row (cellsI (needG g row) ++ z) 3])[H1.length]? = some (.row (cellsI (needG g row) ++ z) 3) := getH_last _ _
          have hap := append_own (id := (H1 ++ [AO.row (cellsI (needG g row) ++ z) 3]).length) (r := r) (n := s.length) (q := H1.length) (m := (needG g row).length) (e := 1) (bytes := 8) (c := none) (c' := none) (getH_app (o := .row (cellsI (needG g row) ++ z) 3) hHs) hq hpos (by omega) (by simp [cellsI]) (by have := need_40 hf k.toNat; rw [← hneed] at this; omega)
          rw [Nat.mul_one, Nat.mul_one, hcs'] at hap
          rw [List.take_left' (by simp [cellsI])] at hap
          generalize hH2 : setL (H1 ++ [AO.row (cellsI (needG g row) ++ z) 3]) r .dead = H2 at hap
          have hH2len : H2.length = H1.length + 1 := by rw [← hH2, setL_len]; simp
          have e2 : cellsI s ++ cellsI (needG g row) = cellsI (s ++ need g k.toNat) := by rw [hneed]; simp [cellsI]
          rw [e2] at hap
          have el : s.length + (needG g row).length = (s ++ need g k.toNat).length := by rw [hneed]; simp
          rw [el] at hap
          obtain ⟨A', H', hL, h0'⟩ := ih (out.set k.toNat true) (s ++ need g k.toNat) (.own (H1.length + 1) 0 (s ++ need g k.toNat).length 1 none) (H2 ++ [AO.row (cellsI (s ++ need g k.toNat)) 3]) (by omega) (by simpa using hl)
            (fun z hz => by
              rcases List.mem_append.1 hz with hz | hz
              · exact hs' z hz
              · exact need_rng _ _ hz)
            (getH_app (by rw [← hH2, getH_set_ne hr]; exact getH_app h0s)) (.inr ⟨H1.length + 1, cellsI (s ++ need g k.toNat), by omega, rfl, by rw [← hH2len]; exact getH_last _ _, by rw [List.take_of_length_le]; simp [cellsI], by simp [cellsI]⟩) (by omega)
          refine ⟨A', H', loopW_round ?_ hL, h0'⟩
          have hlen2 : (H1 ++ [AO.row (cellsI (needG g row) ++ z) 3]).length = H1.length + 1 := by simp
          rw [hlen2] at hap
          simp -implicitDefEqProofs only [c12l0, codeW_seq, codeW_reg, codeW_cond, codeW_block, codeW_loop, codeW_skip, codeW_exit, codeW_ret, thenS_normal, thenS_if, thenS_ret, thenS_exit, thenS_pan, thenS_none, blockS_normal, blockS_exit, blockS_ret, blockS_pan, blockS_if, condS_some, ifS_true, ifS_false, opS_val, opS_new, opS_wr, opS_fz, opS_pan, bindO_some, runS_nil, runS_cons, runS_guard, gS_t, gS_f, gS_undef, asG_lit, asG_undef, core_mv, core_pick, core_alloc, core_load, core_store, core_clr, core_nilck, core_bin, core_binb, core_un, core_fadr, core_iadr, core_sli, core_len, core_lenS, core_idxS, core_app, core_mki, core_call, core_extV, core_fld, core_mks, wrO_some, valO_some, lenV_sl, lenV_own, bin_eql, bin_neq, bin_lss, bin_leq, bin_gtr, bin_geq, bin_add, bin_sub, bin_mul, unop_not, asBool_lit, pickV_lit, load_ip, iadr_sl, iadr_own, ev_s, ev_k, get_cons, get_nil, put_cons, put_nil, putD_some, putD_none, keep_cons, keep_nil, initFr, Nat.reduceEqDiff, Nat.reduceLT, Nat.reduceAdd, if_true, if_false, List.mem_cons, List.not_mem_nil, or_false, false_or, or_true, true_or, or_self, ↓reduceIte, Nat.zero_add, decide_false, decide_true, Nat.reduceBEq, beq_self_eq_true, BEq.rfl, Option.map_some, Option.map_none, List.head?_cons, List.map_cons, List.map_nil, List.append_nil, List.nil_append, List.cons_append, Bool.not_true, Bool.not_false, cond_true, cond_false, Int.natCast_nonneg, Int.toNat_natCast, Int.ofNat_toNat, core_bslice1, bsV_int, codeW_drawn, headS_cons, headS_nil, headS_guard, hS_val, hS_new, tailS_nil, tailS_cons, tailS_guard, tlS_val, tlS_new, tlS_wr, tlS_fz, tlS_pan, anyMk_cons, anyMk_nil, makes, binb_eql, binb_neq, List.isEmpty_nil, List.isEmpty_cons, Bool.or_false, Bool.false_or, Bool.or_true, Bool.true_or, pickV_t, pickV_f, hlt0, hlt1, hw, load_ptr hH, hcg, hsl, hk.1, hk.2, and_self, and_true, true_and, load_ptr h0, hld, Nat.mul_one, hst, hc, hlen2, hap]
end Go.Proofs.Ytoemnjclhheeoaa.Ai
