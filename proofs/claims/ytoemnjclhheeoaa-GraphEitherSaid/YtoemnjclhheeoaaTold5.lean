/- Layer 7: what GraphEither tells. No condition. -/
import Derived.Test.YtoemnjclhheeoaaTold4
namespace Go.Proofs.Ytoemnjclhheeoaa.Ai
open Go Go.Ai
set_option linter.unusedSimpArgs false
set_option linter.unusedVariables false

/-! ### An order, or a cycle -/
theorem nodup_all {N : Nat} {l : List Int} (hn : l.Nodup) (hr : ∀ x ∈ l, 0 ≤ x ∧ x < (N : Int)) (hl : N ≤ l.length) {i : Nat} (hi : i < N) : (i : Int) ∈ l := by
  by_cases h : (i : Int) ∈ l
  · exact h
  · have := nodup_le N ((i : Int) :: l) (List.nodup_cons.2 ⟨h, hn⟩) (fun x hx => by
      rcases List.mem_cons.1 hx with rfl | hx
      · omega
      · exact hr x hx)
    simp only [List.length_cons] at this
    omega

theorem KI.roads {g : List (List Int)} {ws out : List Int} (K : KI g ws [] out) : ∀ {i k : Nat}, Road g i k → ∀ j : Nat, j < out.length → out.getD j 0 = i → (k : Int) ∈ out.take j := by
  intro i k r
  induction r with
  | one h =>
    intro j hj e
    exact K.t j hj _ (by rw [e]; simpa using h)
  | more h r ih =>
    intro j hj e
    have := K.t j hj _ (by rw [e]; simpa using h)
    obtain ⟨j', hj', e'⟩ := List.mem_iff_getElem.1 this
    rw [List.length_take] at hj'
    rw [List.getElem_take] at e'
    have e2 : out.getD j' 0 = out[j']'(by omega) := by
      rw [List.getD_eq_getElem?_getD, List.getElem?_eq_getElem (by omega)]; rfl
    have := ih j' (by omega) (e2.trans e')
    exact List.mem_of_mem_take (i := j') (by rw [List.take_take, Nat.min_eq_left (by omega)]; exact this)

theorem order_none {g : List (List Int)} (h : okL g = true) : ∀ i < g.length, ¬ Road g i i := by
  obtain ⟨ws, K⟩ := outL_ok g
  intro i hi r
  have hnd : (outL g).Nodup := by have := K.nd; simpa using this
  have hrng : ∀ x ∈ outL g, 0 ≤ x ∧ x < (g.length : Int) := fun x hx => K.rng x (by simpa using hx)
  have hm := nodup_all hnd hrng (by simpa [okL] using h) hi
  obtain ⟨j, hj, e⟩ := List.mem_iff_getElem.1 hm
  have e2 : (outL g).getD j 0 = (i : Int) := by rw [List.getD_eq_getElem?_getD, List.getElem?_eq_getElem hj]; exact e
  have ht := K.roads r j hj e2
  have hsp := (List.take_append_drop j (outL g)).symm
  rw [hsp, List.nodup_append] at hnd
  exact hnd.2.2 _ ht _ (by rw [List.drop_eq_getElem_cons hj, e]; exact List.mem_cons_self ..) rfl

theorem wander {g : List (List Int)} (R : Int → Prop) (hR : ∀ x, R x → 0 ≤ x ∧ x < (g.length : Int)) (hn : ∀ x, R x → ∃ y, y ∈ need g x.toNat ∧ R y) : ∀ (m : Nat) (x : Int) (t : List Int), m + (x :: t).length = g.length + 1 → (x :: t).Nodup → (∀ a ∈ x :: t, R a) → (∀ a ∈ t, Road g a.toNat x.toNat) → ∃ i, i < g.length ∧ Road g i i
  | 0, x, t, hm, hnd, ha, hr => by
    have := nodup_le g.length (x :: t) hnd (fun a h => hR a (ha a h))
    omega
  | m + 1, x, t, hm, hnd, ha, hr => by
    obtain ⟨y, hy, hRy⟩ := hn x (ha x (List.mem_cons_self ..))
    have hxr := hR x (ha x (List.mem_cons_self ..))
    have hyr := hR y hRy
    have r1 : Road g x.toNat y.toNat := .one (by rw [show ((y.toNat : Nat) : Int) = y by omega]; exact hy)
    by_cases hm2 : y ∈ x :: t
    · refine ⟨y.toNat, by omega, ?_⟩
      rcases List.mem_cons.1 hm2 with rfl | h
      · exact r1
      · exact (hr y h).snoc (by rw [show ((y.toNat : Nat) : Int) = y by omega]; exact hy)
    · refine wander R hR hn m y (x :: t) (by simp only [List.length_cons] at hm ⊢; omega) (List.nodup_cons.2 ⟨hm2, hnd⟩) (fun a h => ?_) (fun a h => ?_)
      · rcases List.mem_cons.1 h with rfl | h
        · exact hRy
        · exact ha a h
      · rcases List.mem_cons.1 h with rfl | h
        · exact r1
        · exact (hr a h).snoc (by rw [show ((y.toNat : Nat) : Int) = y by omega]; exact hy)

theorem none_order {g : List (List Int)} (h : ∀ i < g.length, ¬ Road g i i) : okL g = true := by
  obtain ⟨ws, K⟩ := outL_ok g
  have hnd : (outL g).Nodup := by have := K.nd; simpa using this
  have hrng : ∀ x ∈ outL g, 0 ≤ x ∧ x < (g.length : Int) := fun x hx => K.rng x (by simpa using hx)
  unfold okL
  rw [decide_eq_true_eq]
  by_cases hall : ∀ i : Nat, i < g.length → (i : Int) ∈ outL g
  · have : (List.map (fun i : Nat => (i : Int)) (List.range g.length)).Nodup := by
      rw [List.nodup_iff_pairwise_ne, List.pairwise_map]
      exact (List.nodup_iff_pairwise_ne.1 List.nodup_range).imp fun h e => h (by omega)
    -- each place once: no more than there are
    have key : ∀ (l m : List Int), l.Nodup → (∀ x ∈ l, x ∈ m) → l.length ≤ m.length := by
      intro l
      induction l with
      | nil => intro m _ _; exact Nat.zero_le _
      | cons x l ih =>
        intro m hn hs
        rw [List.nodup_cons] at hn
        have := ih (m.erase x) hn.2 (fun y hy => by
          have hne : y ≠ x := fun e => hn.1 (e ▸ hy)
          exact (List.mem_erase_of_ne hne).2 (hs y (List.mem_cons_of_mem _ hy)))
        rw [List.length_erase_of_mem (hs x (List.mem_cons_self ..))] at this
        have hp := List.length_pos_of_mem (hs x (List.mem_cons_self ..))
        simp only [List.length_cons]; omega
    have := key _ (outL g) this (fun x hx => by
      obtain ⟨i, hi, rfl⟩ := List.mem_map.1 hx
      exact hall i (List.mem_range.1 hi))
    simpa using this
  · exfalso
    have : ∃ i : Nat, i < g.length ∧ ¬ (i : Int) ∈ outL g := by
      refine Classical.byContradiction fun hc => hall fun i hi => ?_
      refine Classical.byContradiction fun hi2 => hc ⟨i, hi, hi2⟩
    obtain ⟨i, hi, hio⟩ := this
    obtain ⟨j, hj, r⟩ := wander (g := g) (fun x => (0 ≤ x ∧ x < (g.length : Int)) ∧ ¬ x ∈ outL g) (fun x hx => hx.1) (fun x hx => by
      obtain ⟨⟨h0, h1⟩, hx⟩ := hx
      have hz := K.z x.toNat (by omega)
      rw [List.nil_append, show ((x.toNat : Nat) : Int) = x by omega] at hz
      have hw := K.w x.toNat (by omega)
      have hne : ¬ ws.getD x.toNat 0 = 0 := fun e => hx (hz.2 e)
      rw [hw] at hne
      have : ∃ y, y ∈ (need g x.toNat).filter fun k => !(outL g).contains k := by
        cases hf : (need g x.toNat).filter fun k => !(outL g).contains k with
        | nil => rw [hf] at hne; exact absurd rfl hne
        | cons y l => exact ⟨y, by simp⟩
      obtain ⟨y, hy⟩ := this
      rw [List.mem_filter] at hy
      exact ⟨y, hy.1, need_rng _ _ hy.1, by simpa using hy.2⟩) g.length (i : Int) [] (by simp) (by simp) (by simp; exact ⟨hi, hio⟩) (by simp)
    exact h j hj r

/-! ### The law -/
theorem bne_nd {c : List Int} (hnd : c.Nodup) {i k : Nat} (hk : k < i) (hi : i < c.length) : (c.getD k 0 == c.getD i 0) = false := by
  rw [beq_eq_false_iff_ne]
  rw [List.getD_eq_getElem?_getD, List.getD_eq_getElem?_getD, List.getElem?_eq_getElem hi, List.getElem?_eq_getElem (by omega)]
  exact List.pairwise_iff_getElem.1 (List.nodup_iff_pairwise_ne.1 hnd) k i (by omega) hi hk

theorem differ_loop (g A4 : AV) (A : AV) (c : List Int) (hA : RowV A c) (hnd : c.Nodup) (hl : c.length ≤ 1000) (i : Nat) (hi : i < c.length) : ∀ (m n : Nat), m + n = i →
    loopW (codeW cw (lookM mtl) mds c4l0) [0, 4, 5, 6, 7] [(0, g), (4, A4), (5, A), (6, litI .i64 i), (7, litI .i64 n)] [] = some (EX.exit 2, [(0, g), (4, A4), (5, A), (6, litI .i64 i), (7, litI .i64 i), (41, litB false)], [])
  | 0, n, h => by
    have hn : n = i := by omega
    subst hn
    refine loopW_out ?_ (by simp)
    simp -implicitDefEqProofs only [c4l0, codeW_seq, codeW_reg, codeW_cond, codeW_block, codeW_loop, codeW_skip, codeW_exit, codeW_ret, thenS_normal, thenS_if, thenS_ret, thenS_exit, thenS_pan, thenS_none, blockS_normal, blockS_exit, blockS_ret, blockS_pan, blockS_if, condS_some, ifS_true, ifS_false, opS_val, opS_new, opS_wr, opS_fz, opS_pan, bindO_some, runS_nil, runS_cons, runS_guard, gS_t, gS_f, gS_undef, asG_lit, asG_undef, core_mv, core_pick, core_alloc, core_load, core_store, core_clr, core_nilck, core_bin, core_binb, core_un, core_fadr, core_iadr, core_sli, core_len, core_lenS, core_idxS, core_app, core_mki, core_call, core_extV, core_fld, core_mks, wrO_some, valO_some, lenV_sl, lenV_own, bin_eql, bin_neq, bin_lss, bin_leq, bin_gtr, bin_geq, bin_add, bin_sub, bin_mul, unop_not, asBool_lit, pickV_lit, load_ip, iadr_sl, iadr_own, ev_s, ev_k, get_cons, get_nil, put_cons, put_nil, putD_some, putD_none, keep_cons, keep_nil, initFr, Nat.reduceEqDiff, Nat.reduceLT, Nat.reduceAdd, if_true, if_false, List.mem_cons, List.not_mem_nil, or_false, false_or, or_true, true_or, or_self, ↓reduceIte, Nat.zero_add, decide_false, decide_true, Nat.reduceBEq, beq_self_eq_true, BEq.rfl, Option.map_some, Option.map_none, List.head?_cons, List.map_cons, List.map_nil, List.append_nil, List.nil_append, List.cons_append, Bool.not_true, Bool.not_false, cond_true, cond_false, Int.natCast_nonneg, Int.toNat_natCast, Int.ofNat_toNat, core_bslice1, bsV_int, codeW_drawn, headS_cons, headS_nil, headS_guard, hS_val, hS_new, tailS_nil, tailS_cons, tailS_guard, tlS_val, tlS_new, tlS_wr, tlS_fz, tlS_pan, anyMk_cons, anyMk_nil, makes, binb_eql, binb_neq, List.isEmpty_nil, List.isEmpty_cons, Bool.or_false, Bool.false_or, Bool.or_true, Bool.true_or, pickV_t, pickV_f, core_inv, core_callS, fnV_func, core_tas, tasV_iface, nilck_ptr, extV_tup, fldV_agg, List.getElem?_cons_zero, List.getElem?_cons_succ, Int.lt_irrefl]
  | m + 1, n, h => by
    have hn : n < i := by omega
    have hlt : (n : Int) < i := by omega
    have hw := wrap1 (show n < 4611686018427387904 by omega)
    have hne := bne_nd hnd hn hi
    refine loopW_round ?_ (differ_loop g A4 A c hA hnd hl i hi m (n + 1) (by omega))
    simp -implicitDefEqProofs only [c4l0, codeW_seq, codeW_reg, codeW_cond, codeW_block, codeW_loop, codeW_skip, codeW_exit, codeW_ret, thenS_normal, thenS_if, thenS_ret, thenS_exit, thenS_pan, thenS_none, blockS_normal, blockS_exit, blockS_ret, blockS_pan, blockS_if, condS_some, ifS_true, ifS_false, opS_val, opS_new, opS_wr, opS_fz, opS_pan, bindO_some, runS_nil, runS_cons, runS_guard, gS_t, gS_f, gS_undef, asG_lit, asG_undef, core_mv, core_pick, core_alloc, core_load, core_store, core_clr, core_nilck, core_bin, core_binb, core_un, core_fadr, core_iadr, core_sli, core_len, core_lenS, core_idxS, core_app, core_mki, core_call, core_extV, core_fld, core_mks, wrO_some, valO_some, lenV_sl, lenV_own, bin_eql, bin_neq, bin_lss, bin_leq, bin_gtr, bin_geq, bin_add, bin_sub, bin_mul, unop_not, asBool_lit, pickV_lit, load_ip, iadr_sl, iadr_own, ev_s, ev_k, get_cons, get_nil, put_cons, put_nil, putD_some, putD_none, keep_cons, keep_nil, initFr, Nat.reduceEqDiff, Nat.reduceLT, Nat.reduceAdd, if_true, if_false, List.mem_cons, List.not_mem_nil, or_false, false_or, or_true, true_or, or_self, ↓reduceIte, Nat.zero_add, decide_false, decide_true, Nat.reduceBEq, beq_self_eq_true, BEq.rfl, Option.map_some, Option.map_none, List.head?_cons, List.map_cons, List.map_nil, List.append_nil, List.nil_append, List.cons_append, Bool.not_true, Bool.not_false, cond_true, cond_false, Int.natCast_nonneg, Int.toNat_natCast, Int.ofNat_toNat, core_bslice1, bsV_int, codeW_drawn, headS_cons, headS_nil, headS_guard, hS_val, hS_new, tailS_nil, tailS_cons, tailS_guard, tlS_val, tlS_new, tlS_wr, tlS_fz, tlS_pan, anyMk_cons, anyMk_nil, makes, binb_eql, binb_neq, List.isEmpty_nil, List.isEmpty_cons, Bool.or_false, Bool.false_or, Bool.or_true, Bool.true_or, pickV_t, pickV_f, core_inv, core_callS, fnV_func, core_tas, tasV_iface, nilck_ptr, extV_tup, fldV_agg, List.getElem?_cons_zero, List.getElem?_cons_succ, hlt, hA.iadr (show n < c.length by omega), hA.iadr hi, hne, hw]

theorem round_loop (g : List (List Int)) (hf : fewG g = true) (A4 A : AV) (c : List Int) (hA : RowV A c) (hnd : c.Nodup) (hl : c.length ≤ g.length) (hrng : ∀ a ∈ c, 0 ≤ a ∧ a < (g.length : Int)) (hnext : ∀ j : Nat, j < c.length → c.getD ((j + 1) % c.length) 0 ∈ need g (c.getD j 0).toNat) : ∀ (m n : Nat), m + n = c.length →
    loopW (codeW cw (lookM mtl) mds c4l1) [0, 4, 5, 6] [(0, gA g), (4, A4), (5, A), (6, litI .i64 n)] [] = some (EX.exit 0, [(0, gA g), (4, A4), (5, A), (6, litI .i64 c.length), (21, litB false)], [])
  | 0, n, h => by
    have hn : n = c.length := by omega
    subst hn
    refine loopW_out ?_ (by simp)
    simp -implicitDefEqProofs only [c4l1, codeW_seq, codeW_reg, codeW_cond, codeW_block, codeW_loop, codeW_skip, codeW_exit, codeW_ret, thenS_normal, thenS_if, thenS_ret, thenS_exit, thenS_pan, thenS_none, blockS_normal, blockS_exit, blockS_ret, blockS_pan, blockS_if, condS_some, ifS_true, ifS_false, opS_val, opS_new, opS_wr, opS_fz, opS_pan, bindO_some, runS_nil, runS_cons, runS_guard, gS_t, gS_f, gS_undef, asG_lit, asG_undef, core_mv, core_pick, core_alloc, core_load, core_store, core_clr, core_nilck, core_bin, core_binb, core_un, core_fadr, core_iadr, core_sli, core_len, core_lenS, core_idxS, core_app, core_mki, core_call, core_extV, core_fld, core_mks, wrO_some, valO_some, lenV_sl, lenV_own, bin_eql, bin_neq, bin_lss, bin_leq, bin_gtr, bin_geq, bin_add, bin_sub, bin_mul, unop_not, asBool_lit, pickV_lit, load_ip, iadr_sl, iadr_own, ev_s, ev_k, get_cons, get_nil, put_cons, put_nil, putD_some, putD_none, keep_cons, keep_nil, initFr, Nat.reduceEqDiff, Nat.reduceLT, Nat.reduceAdd, if_true, if_false, List.mem_cons, List.not_mem_nil, or_false, false_or, or_true, true_or, or_self, ↓reduceIte, Nat.zero_add, decide_false, decide_true, Nat.reduceBEq, beq_self_eq_true, BEq.rfl, Option.map_some, Option.map_none, List.head?_cons, List.map_cons, List.map_nil, List.append_nil, List.nil_append, List.cons_append, Bool.not_true, Bool.not_false, cond_true, cond_false, Int.natCast_nonneg, Int.toNat_natCast, Int.ofNat_toNat, core_bslice1, bsV_int, codeW_drawn, headS_cons, headS_nil, headS_guard, hS_val, hS_new, tailS_nil, tailS_cons, tailS_guard, tlS_val, tlS_new, tlS_wr, tlS_fz, tlS_pan, anyMk_cons, anyMk_nil, makes, binb_eql, binb_neq, List.isEmpty_nil, List.isEmpty_cons, Bool.or_false, Bool.false_or, Bool.or_true, Bool.true_or, pickV_t, pickV_f, core_inv, core_callS, fnV_func, core_tas, tasV_iface, nilck_ptr, extV_tup, fldV_agg, List.getElem?_cons_zero, List.getElem?_cons_succ, hA.lenV, Int.lt_irrefl]
  | m + 1, n, h => by
    have hn : n < c.length := by omega
    have hlt : (n : Int) < c.length := by omega
    have h20 := few_len hf
    have hw := wrap1 (show n < 4611686018427387904 by omega)
    have hmod : (n + 1) % c.length < c.length := Nat.mod_lt _ (by omega)
    have hrem : (((n + 1 : Nat) : Int)).tmod c.length = (((n + 1) % c.length : Nat) : Int) := by
      rw [Int.natCast_emod, Int.tmod_eq_emod_of_nonneg (by omega)]
    have hnz : ((c.length : Nat) : Int) ≠ 0 := by omega
    have hmem : ∀ j, j < c.length → c.getD j 0 ∈ c := fun j hj => by
      rw [List.getD_eq_getElem?_getD, List.getElem?_eq_getElem hj]; exact List.getElem_mem _
    have h1 := hrng _ (hmem n hn)
    have h2 := hrng _ (hmem _ hmod)
    have hc := fun H id => rneeds_call g hf (c.getD n 0).toNat (c.getD ((n + 1) % c.length) 0).toNat (by omega) (by omega) H id
    have hnb : needB g (c.getD n 0).toNat (c.getD ((n + 1) % c.length) 0).toNat = true := by
      rw [needB_iff (by omega), show (((c.getD ((n + 1) % c.length) 0).toNat : Nat) : Int) = c.getD ((n + 1) % c.length) 0 by omega]
      exact hnext n hn
    rw [show (((c.getD n 0).toNat : Nat) : Int) = c.getD n 0 by omega, show (((c.getD ((n + 1) % c.length) 0).toNat : Nat) : Int) = c.getD ((n + 1) % c.length) 0 by omega, hnb] at hc
    have L := differ_loop (gA g) A4 A c hA hnd (by omega) n hn n 0 (by omega)
    rw [show ((0 : Nat) : Int) = 0 from rfl] at L
    refine loopW_next (fr1 := [(0, gA g), (4, A4), (5, A), (6, litI .i64 ((n + 1 : Nat) : Int))]) ?_ rfl (round_loop g hf A4 A c hA hnd hl hrng hnext m (n + 1) (by omega))
    simp -implicitDefEqProofs only [c4l1, codeW_seq, codeW_reg, codeW_cond, codeW_block, codeW_loop, codeW_skip, codeW_exit, codeW_ret, thenS_normal, thenS_if, thenS_ret, thenS_exit, thenS_pan, thenS_none, blockS_normal, blockS_exit, blockS_ret, blockS_pan, blockS_if, condS_some, ifS_true, ifS_false, opS_val, opS_new, opS_wr, opS_fz, opS_pan, bindO_some, runS_nil, runS_cons, runS_guard, gS_t, gS_f, gS_undef, asG_lit, asG_undef, core_mv, core_pick, core_alloc, core_load, core_store, core_clr, core_nilck, core_bin, core_binb, core_un, core_fadr, core_iadr, core_sli, core_len, core_lenS, core_idxS, core_app, core_mki, core_call, core_extV, core_fld, core_mks, wrO_some, valO_some, lenV_sl, lenV_own, bin_eql, bin_neq, bin_lss, bin_leq, bin_gtr, bin_geq, bin_add, bin_sub, bin_mul, unop_not, asBool_lit, pickV_lit, load_ip, iadr_sl, iadr_own, ev_s, ev_k, get_cons, get_nil, put_cons, put_nil, putD_some, putD_none, keep_cons, keep_nil, initFr, Nat.reduceEqDiff, Nat.reduceLT, Nat.reduceAdd, if_true, if_false, List.mem_cons, List.not_mem_nil, or_false, false_or, or_true, true_or, or_self, ↓reduceIte, Nat.zero_add, decide_false, decide_true, Nat.reduceBEq, beq_self_eq_true, BEq.rfl, Option.map_some, Option.map_none, List.head?_cons, List.map_cons, List.map_nil, List.append_nil, List.nil_append, List.cons_append, Bool.not_true, Bool.not_false, cond_true, cond_false, Int.natCast_nonneg, Int.toNat_natCast, Int.ofNat_toNat, core_bslice1, bsV_int, codeW_drawn, headS_cons, headS_nil, headS_guard, hS_val, hS_new, tailS_nil, tailS_cons, tailS_guard, tlS_val, tlS_new, tlS_wr, tlS_fz, tlS_pan, anyMk_cons, anyMk_nil, makes, binb_eql, binb_neq, List.isEmpty_nil, List.isEmpty_cons, Bool.or_false, Bool.false_or, Bool.or_true, Bool.true_or, pickV_t, pickV_f, core_inv, core_callS, fnV_func, core_tas, tasV_iface, nilck_ptr, extV_tup, fldV_agg, List.getElem?_cons_zero, List.getElem?_cons_succ, hA.lenV, hlt, hA.iadr hn, hw, bin_rem .i64 hnz, hrem, hA.iadr hmod, hc, L]

theorem either_law (g : List (List Int)) : ∃ H', cw 4 [gA g] [] = some (.ret (litB true), H') := by
  cases hf : fewG g with
  | false =>
    refine ⟨[], cw_of fn4 (c := c4) rfl rfl rfl rfl ?_⟩
    simp -implicitDefEqProofs only [c4, codeW_seq, codeW_reg, codeW_cond, codeW_block, codeW_loop, codeW_skip, codeW_exit, codeW_ret, thenS_normal, thenS_if, thenS_ret, thenS_exit, thenS_pan, thenS_none, blockS_normal, blockS_exit, blockS_ret, blockS_pan, blockS_if, condS_some, ifS_true, ifS_false, opS_val, opS_new, opS_wr, opS_fz, opS_pan, bindO_some, runS_nil, runS_cons, runS_guard, gS_t, gS_f, gS_undef, asG_lit, asG_undef, core_mv, core_pick, core_alloc, core_load, core_store, core_clr, core_nilck, core_bin, core_binb, core_un, core_fadr, core_iadr, core_sli, core_len, core_lenS, core_idxS, core_app, core_mki, core_call, core_extV, core_fld, core_mks, wrO_some, valO_some, lenV_sl, lenV_own, bin_eql, bin_neq, bin_lss, bin_leq, bin_gtr, bin_geq, bin_add, bin_sub, bin_mul, unop_not, asBool_lit, pickV_lit, load_ip, iadr_sl, iadr_own, ev_s, ev_k, get_cons, get_nil, put_cons, put_nil, putD_some, putD_none, keep_cons, keep_nil, initFr, Nat.reduceEqDiff, Nat.reduceLT, Nat.reduceAdd, if_true, if_false, List.mem_cons, List.not_mem_nil, or_false, false_or, or_true, true_or, or_self, ↓reduceIte, Nat.zero_add, decide_false, decide_true, Nat.reduceBEq, beq_self_eq_true, BEq.rfl, Option.map_some, Option.map_none, List.head?_cons, List.map_cons, List.map_nil, List.append_nil, List.nil_append, List.cons_append, Bool.not_true, Bool.not_false, cond_true, cond_false, Int.natCast_nonneg, Int.toNat_natCast, Int.ofNat_toNat, core_bslice1, bsV_int, codeW_drawn, headS_cons, headS_nil, headS_guard, hS_val, hS_new, tailS_nil, tailS_cons, tailS_guard, tlS_val, tlS_new, tlS_wr, tlS_fz, tlS_pan, anyMk_cons, anyMk_nil, makes, binb_eql, binb_neq, List.isEmpty_nil, List.isEmpty_cons, Bool.or_false, Bool.false_or, Bool.or_true, Bool.true_or, pickV_t, pickV_f, core_inv, core_callS, fnV_func, core_tas, tasV_iface, nilck_ptr, extV_tup, fldV_agg, List.getElem?_cons_zero, List.getElem?_cons_succ, few_call, hf]
    rfl
  | true =>
    have h20 := few_len hf
    obtain ⟨A, h8, hA⟩ := order_call g hf [] 0
    obtain ⟨A5, c, hA5, hc, h11⟩ := cycle_call g hf
    have heq : (okL g == decide (c.length = 0)) = true := by
      rw [beq_iff_eq]
      rcases hc with ⟨rfl, h⟩ | ⟨f, hfl, r, _, C⟩
      · rw [none_order h]; rfl
      · have : ¬ okL g = true := fun h => order_none h f hfl r
        rw [Bool.eq_false_iff.mpr this]
        have := C.pos
        rw [decide_eq_false (by omega)]
    have e0 : ((c.length : Int) == 0) = decide (c.length = 0) := by
      rw [Bool.eq_iff_iff, beq_iff_eq, decide_eq_true_eq]; omega
    have L : loopW (codeW cw (lookM mtl) mds c4l1) [0, 4, 5, 6] [(0, gA g), (4, litB (okL g)), (5, A5), (6, litI .i64 0)] [] = some (EX.exit 0, [(0, gA g), (4, litB (okL g)), (5, A5), (6, litI .i64 c.length), (21, litB false)], []) := by
      rcases hc with ⟨rfl, h⟩ | ⟨f, hfl, r, _, C⟩
      · exact round_loop g hf (litB (okL g)) A5 [] hA5 (by simp) (by simp) (by simp) (fun j hj => by simp at hj) 0 0 rfl
      · exact round_loop g hf (litB (okL g)) A5 c hA5 C.nd C.le C.rng C.next c.length 0 (by omega)
    refine ⟨[], cw_of fn4 (c := c4) rfl rfl rfl rfl ?_⟩
    simp -implicitDefEqProofs only [c4, codeW_seq, codeW_reg, codeW_cond, codeW_block, codeW_loop, codeW_skip, codeW_exit, codeW_ret, thenS_normal, thenS_if, thenS_ret, thenS_exit, thenS_pan, thenS_none, blockS_normal, blockS_exit, blockS_ret, blockS_pan, blockS_if, condS_some, ifS_true, ifS_false, opS_val, opS_new, opS_wr, opS_fz, opS_pan, bindO_some, runS_nil, runS_cons, runS_guard, gS_t, gS_f, gS_undef, asG_lit, asG_undef, core_mv, core_pick, core_alloc, core_load, core_store, core_clr, core_nilck, core_bin, core_binb, core_un, core_fadr, core_iadr, core_sli, core_len, core_lenS, core_idxS, core_app, core_mki, core_call, core_extV, core_fld, core_mks, wrO_some, valO_some, lenV_sl, lenV_own, bin_eql, bin_neq, bin_lss, bin_leq, bin_gtr, bin_geq, bin_add, bin_sub, bin_mul, unop_not, asBool_lit, pickV_lit, load_ip, iadr_sl, iadr_own, ev_s, ev_k, get_cons, get_nil, put_cons, put_nil, putD_some, putD_none, keep_cons, keep_nil, initFr, Nat.reduceEqDiff, Nat.reduceLT, Nat.reduceAdd, if_true, if_false, List.mem_cons, List.not_mem_nil, or_false, false_or, or_true, true_or, or_self, ↓reduceIte, Nat.zero_add, decide_false, decide_true, Nat.reduceBEq, beq_self_eq_true, BEq.rfl, Option.map_some, Option.map_none, List.head?_cons, List.map_cons, List.map_nil, List.append_nil, List.nil_append, List.cons_append, Bool.not_true, Bool.not_false, cond_true, cond_false, Int.natCast_nonneg, Int.toNat_natCast, Int.ofNat_toNat, core_bslice1, bsV_int, codeW_drawn, headS_cons, headS_nil, headS_guard, hS_val, hS_new, tailS_nil, tailS_cons, tailS_guard, tlS_val, tlS_new, tlS_wr, tlS_fz, tlS_pan, anyMk_cons, anyMk_nil, makes, binb_eql, binb_neq, List.isEmpty_nil, List.isEmpty_cons, Bool.or_false, Bool.false_or, Bool.or_true, Bool.true_or, pickV_t, pickV_f, core_inv, core_callS, fnV_func, core_tas, tasV_iface, nilck_ptr, extV_tup, fldV_agg, List.getElem?_cons_zero, List.getElem?_cons_succ, few_call, hf, List.length_nil, h8, h11, L, hA5.lenV, e0, heq, awake_call]
    rfl
end Go.Proofs.Ytoemnjclhheeoaa.Ai
