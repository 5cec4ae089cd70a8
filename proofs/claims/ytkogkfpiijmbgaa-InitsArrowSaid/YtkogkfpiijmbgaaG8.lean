/- Layer 11, law 5: told. No condition. -/
import Derived.Test.YtkogkfpiijmbgaaG7
set_option linter.unusedSimpArgs false
set_option linter.unusedVariables false
set_option linter.unusedSectionVars false
namespace Go.Proofs.Ytkogkfpiijmbgaa.Ai
open Go Go.Ai
def oneT : Tr := .mk 2 (bs [49]) 0 (some 0) [] 0
def arrT (t : Tr) : Tr := .mk 7 (bs [45, 62]) 0 (some 2) [oneT, t] 0
def preT (t : Tr) : Tr := .mk 6 (bs [112, 114, 101]) 0 (some 1) [t] 0
theorem sm_one : Sm oneT := .mk _ _ _ _ _ _ (by decide) (by decide) (fun a ha => by cases ha)
theorem sm_arr {t : Tr} (S : Sm t) : Sm (arrT t) := .mk _ _ _ _ _ _ (by decide) (by simp) (fun a ha => by
  rcases List.mem_cons.1 ha with rfl | ha
  · exact sm_one
  · rw [List.mem_singleton.1 ha]; exact S)
theorem sm_pre {t : Tr} (S : Sm t) : Sm (preT t) := .mk _ _ _ _ _ _ (by decide) (by simp) (fun a ha => by
  rw [List.mem_singleton.1 ha]; exact S)
theorem dep_one : dep oneT = 1 := rfl
theorem dep_arr (t : Tr) : dep (arrT t) = 1 + max 1 (dep t) := by
  rw [dep_eq]
  show 1 + depL [oneT, t] = _
  rw [depL, depL, depL, dep_one]
  omega
theorem dep_pre (t : Tr) : dep (preT t) = 1 + dep t := by
  rw [dep_eq]
  show 1 + depL [t] = _
  rw [depL, depL]
  omega
theorem right_arr {t : Tr} (h : rightT (arrT t) = true) : rightT t = true := by
  unfold rightT at h ⊢
  rw [Bool.and_eq_true] at h ⊢
  obtain ⟨h1, h2⟩ := h
  rw [allT_eq, Bool.and_eq_true, List.all_eq_true] at h2
  refine ⟨?_, h2.2 t (by show t ∈ [oneT, t]; simp)⟩
  rw [dep_arr, Bool.not_eq_true', decide_eq_false_iff_not] at h1
  rw [Bool.not_eq_true', decide_eq_false_iff_not]
  omega
theorem lev_one : lev oneT = .ok 0 := rfl
theorem lev_arr (t : Tr) : lev (arrT t) = match lev t with
    | .error q => .error q
    | .ok _ => .ok 0 := by
  rw [lev_eq]
  show (match levL [oneT, t] with | .error q => Except.error q | .ok ls => top 7 (bs [45, 62]) [oneT, t] 0 ls) = _
  rw [levL, lev_one, levL]
  cases lev t with
  | error q => rfl
  | ok n =>
    simp only [levL]
    unfold top
    rw [if_neg (by decide), if_neg (by decide), if_pos (by decide)]
    rfl
theorem lev_pre (t : Tr) : lev (preT t) = match lev t with
    | .error q => .error q
    | .ok n => if n = 0 then .ok 1 else .error 0 := by
  rw [lev_eq]
  show (match levL [t] with | .error q => Except.error q | .ok ls => top 6 (bs [112, 114, 101]) [t] 0 ls) = _
  rw [levL]
  cases lev t with
  | error q => rfl
  | ok n =>
    simp only [levL]
    unfold top
    rw [if_pos (by decide)]
    rfl
theorem arrow_plain (t : Tr) : (levelOut (arrT t)).2.1 = 1 ∨ (levelOut (preT (arrT t))).2.1 = 1 ∨
    ((levelOut t).2.1 = 110 ∧ (levelOut (arrT t)).2.1 = 110 ∧ (levelOut (preT (arrT t))).2.1 = 110) ∨
    ((levelOut t).2.1 = 0 ∧ (levelOut (arrT t)).1 = 0 ∧ (levelOut (arrT t)).2.1 = 0 ∧ (levelOut (preT (arrT t))).1 = 1 ∧ (levelOut (preT (arrT t))).2.1 = 0) := by
  unfold levelOut
  cases ha : rightT (arrT t) with
  | false => exact .inl rfl
  | true =>
    cases hp : rightT (preT (arrT t)) with
    | false => exact .inr (.inl rfl)
    | true =>
      right; right
      rw [right_arr ha]
      simp only [if_true]
      rw [lev_pre, lev_arr]
      cases hv : lev t with
      | error q => exact .inl ⟨rfl, rfl, rfl⟩
      | ok n => exact .inr ⟨rfl, rfl, rfl, rfl, rfl⟩
theorem b_one {H : List AO} {id : Nat} {fr : Fr} : core cw (lookM mtl) mds H id (.build [litI .i64 0, litS (bs []), .sl 0 [] (some 0), litI .i64 0] [(0, 1, .k (litI .i64 2)), (1, 1, .k (litS (bs [49])))]) fr = some (.val (.agg oneT.cells) none) := rfl
theorem b_arr {H : List AO} {id : Nat} {fr : Fr} {x : X} (t : Tr) (hx : ev fr x = argsA 0 (some 2) [oneT, t]) : core cw (lookM mtl) mds H id (.build [litI .i64 0, litS (bs []), .sl 0 [] (some 0), litI .i64 0] [(0, 1, .k (litI .i64 7)), (1, 1, .k (litS (bs [45, 62]))), (2, 1, x)]) fr = some (.val (.agg (arrT t).cells) none) := by
  rw [cells_mk]
  simp only [core, List.map_cons, List.map_nil, hx]
  rfl
theorem b_pre {H : List AO} {id : Nat} {fr : Fr} {x : X} (t : Tr) (hx : ev fr x = argsA 0 (some 1) [t]) : core cw (lookM mtl) mds H id (.build [litI .i64 0, litS (bs []), .sl 0 [] (some 0), litI .i64 0] [(0, 1, .k (litI .i64 6)), (1, 1, .k (litS (bs [112, 114, 101]))), (2, 1, x)]) fr = some (.val (.agg (preT t).cells) none) := by
  rw [cells_mk]
  simp only [core, List.map_cons, List.map_nil, hx]
  rfl
theorem s_one {H : List AO} {id : Nat} {fr : Fr} {x : X} (t : Tr) (hx : ev fr x = .agg t.cells) : core cw (lookM mtl) mds H id (.bslice false 4 1 [litI .i64 0, litS (bs []), .sl 0 [] (some 0), litI .i64 0] [(0, x)] 24) fr = some (.val (argsA 0 (some 1) [t]) none) := by
  have hf : mapL (frz H frzF) t.cells = some (t.cells, []) := by rw [cells_mk]; rfl
  simp only [core, List.map_cons, List.map_nil, hx, Nat.zero_mul, reps]
  rw [show fill ([litI .i64 0, litS (bs []), AV.sl 0 [] (some 0), litI .i64 0] ++ []) [(0, 4, .agg t.cells)] = some t.cells from fill_one t _ rfl]
  simp only [Option.bind_some, cond_false, hf, List.isEmpty_nil, cond_true]
  show _ = some (Out.val (.sl 4 [t.cells] (some 1)) none)
  rw [cells_mk]; rfl
theorem s_two {H : List AO} {id : Nat} {fr : Fr} {x y : X} (u t : Tr) (hx : ev fr x = .agg u.cells) (hy : ev fr y = .agg t.cells) : core cw (lookM mtl) mds H id (.bslice false 4 2 [litI .i64 0, litS (bs []), .sl 0 [] (some 0), litI .i64 0] [(0, x), (1, y)] 24) fr = some (.val (argsA 0 (some 2) [u, t]) none) := by
  simp only [core, List.map_cons, List.map_nil, hx, hy]
  rw [cells_mk u, cells_mk t]
  show _ = some (Out.val (.sl 4 [u.cells, t.cells] (some 2)) none)
  rw [cells_mk u, cells_mk t]
  rfl
theorem arrow5_tells (t : Tr) : ∃ H', cw 5 [.agg t.cells] [] = some (.ret (litB true), H') := by
  obtain ⟨H6, f6⟩ := few6_tells t
  have cf : ∀ H id, callV cw mds 6 [.agg t.cells] H id = some (.val (litB (few t)) none) := fun H id => callV_up (callV_pureA rfl (by rw [List.all_cons, whole_cells]; rfl) f6 rfl)
  have l4 : Ai.load [rowT t] (some 4) (.ptr 0 0) = some (.agg t.cells) := ld4 rfl
  suffices h : retOf ((codeW cw (lookM mtl) mds c5 (initFr 0 [.agg t.cells]) []).bind (fin fn5)) = some (.ret (litB true)) by
    obtain ⟨H', h⟩ := retOf_some h
    exact ⟨H', cw_of fn5 rfl rfl rfl rfl h⟩
  have aw := awake9_call
  cases hf : few t with
  | false =>
    rw [hf] at cf
    simp -implicitDefEqProofs only [c5, aW, ↓aP, makes, Nat.reduceLT, Nat.reduceEqDiff, Nat.reduceAdd, ↓reduceIte, Nat.reduceBEq, core_box, box_tr, List.length_nil, l4, cf]
    rfl
  | true =>
    rw [hf] at cf
    obtain ⟨S, hd⟩ := few_sm1 hf
    have lc := level_call t S (by omega) (fun h => shp_right S h)
    have la := level_call (arrT t) (sm_arr S) (by rw [dep_arr]; omega) (fun h => shp_right (sm_arr S) h)
    have lp := level_call (preT (arrT t)) (sm_pre (sm_arr S)) (by rw [dep_pre, dep_arr]; omega) (fun h => shp_right (sm_pre (sm_arr S)) h)
    rw [lv0] at lc la lp
    have P := arrow_plain t
    generalize levelOut t = e at *
    generalize levelOut (arrT t) = a at *
    generalize levelOut (preT (arrT t)) = p at *
    have z1 : storeAt ([rowT t] ++ [.row [litI .i64 0, litS (bs []), .sl 0 [] (some 0), litI .i64 0] 24]) 4 (.ptr ([rowT t] : List AO).length 0) (.agg oneT.cells) = some ([rowT t] ++ [rowT oneT]) := zero_store _ _
    have z2 : storeAt (([rowT t] ++ [rowT oneT]) ++ [.row [litI .i64 0, litS (bs []), .sl 0 [] (some 0), litI .i64 0] 24]) 4 (.ptr (([rowT t] ++ [rowT oneT]) : List AO).length 0) (.agg (arrT t).cells) = some (([rowT t] ++ [rowT oneT]) ++ [rowT (arrT t)]) := zero_store _ _
    simp only [List.cons_append, List.nil_append, List.length_cons, List.length_nil, Nat.zero_add, Nat.reduceAdd] at z1 z2
    have m1 : Ai.load [rowT t, rowT oneT] (some 4) (.ptr 0 0) = some (.agg t.cells) := ld4 rfl
    have m2 : Ai.load [rowT t, rowT oneT] (some 4) (.ptr 1 0) = some (.agg oneT.cells) := ld4 rfl
    have m3 : Ai.load [rowT t, rowT oneT, rowT (arrT t)] (some 4) (.ptr 2 0) = some (.agg (arrT t).cells) := ld4 rfl
    have ba : ∀ {H : List AO} {id : Nat} {fr : Fr} (x : X), ev fr x = argsA 0 (some 2) [oneT, t] → core cw (lookM mtl) mds H id (.build [litI .i64 0, litS (bs []), .sl 0 [] (some 0), litI .i64 0] [(0, 1, .k (litI .i64 7)), (1, 1, .k (litS (bs [45, 62]))), (2, 1, x)]) fr = some (.val (.agg (arrT t).cells) none) := fun x hx => b_arr t hx
    have bp : ∀ {H : List AO} {id : Nat} {fr : Fr} (x : X), ev fr x = argsA 0 (some 1) [arrT t] → core cw (lookM mtl) mds H id (.build [litI .i64 0, litS (bs []), .sl 0 [] (some 0), litI .i64 0] [(0, 1, .k (litI .i64 6)), (1, 1, .k (litS (bs [112, 114, 101]))), (2, 1, x)]) fr = some (.val (.agg (preT (arrT t)).cells) none) := fun x hx => b_pre (arrT t) hx
    have s1 : ∀ {H : List AO} {id : Nat} {fr : Fr} (x : X), ev fr x = .agg (arrT t).cells → core cw (lookM mtl) mds H id (.bslice false 4 1 [litI .i64 0, litS (bs []), .sl 0 [] (some 0), litI .i64 0] [(0, x)] 24) fr = some (.val (argsA 0 (some 1) [arrT t]) none) := fun x hx => s_one (arrT t) hx
    have s2 : ∀ {H : List AO} {id : Nat} {fr : Fr} (x y : X), ev fr x = .agg oneT.cells → ev fr y = .agg t.cells → core cw (lookM mtl) mds H id (.bslice false 4 2 [litI .i64 0, litS (bs []), .sl 0 [] (some 0), litI .i64 0] [(0, x), (1, y)] 24) fr = some (.val (argsA 0 (some 2) [oneT, t]) none) := fun x y hx hy => s_two oneT t hx hy
    rcases P with h | h | ⟨h1, h2, h3⟩ | ⟨h1, h2, h3, h4, h5⟩
    · rw [h] at la
      simp -implicitDefEqProofs only [c5, aW, ↓aP, makes, Nat.reduceLT, Nat.reduceEqDiff, Nat.reduceAdd, ↓reduceIte, Nat.reduceBEq, core_box, box_tr, List.length_nil, List.length_cons, l4, cf, lc, ↓b_one, z1, m1, m2, s2, ba, z2, m3, la, s1, bp, lp, aw, Int.reduceBEq, Int.reduceBNe]
      rfl
    · rw [h] at lp
      cases hy : (a.2.1 == 1) with
      | true =>
        simp -implicitDefEqProofs only [c5, aW, ↓aP, makes, Nat.reduceLT, Nat.reduceEqDiff, Nat.reduceAdd, ↓reduceIte, Nat.reduceBEq, core_box, box_tr, List.length_nil, List.length_cons, l4, cf, lc, ↓b_one, z1, m1, m2, s2, ba, z2, m3, la, s1, bp, lp, hy, aw, Int.reduceBEq, Int.reduceBNe]
        rfl
      | false =>
        simp -implicitDefEqProofs only [c5, aW, ↓aP, makes, Nat.reduceLT, Nat.reduceEqDiff, Nat.reduceAdd, ↓reduceIte, Nat.reduceBEq, core_box, box_tr, List.length_nil, List.length_cons, l4, cf, lc, ↓b_one, z1, m1, m2, s2, ba, z2, m3, la, s1, bp, lp, hy, aw, Int.reduceBEq, Int.reduceBNe]
        rfl
    · rw [h1] at lc
      rw [h2] at la
      rw [h3] at lp
      simp -implicitDefEqProofs only [c5, aW, ↓aP, makes, Nat.reduceLT, Nat.reduceEqDiff, Nat.reduceAdd, ↓reduceIte, Nat.reduceBEq, core_box, box_tr, List.length_nil, List.length_cons, l4, cf, lc, ↓b_one, z1, m1, m2, s2, ba, z2, m3, la, s1, bp, lp, aw, Int.reduceBEq, Int.reduceBNe]
      rfl
    · rw [h1] at lc
      rw [h2, h3] at la
      rw [h4, h5] at lp
      simp -implicitDefEqProofs only [c5, aW, ↓aP, makes, Nat.reduceLT, Nat.reduceEqDiff, Nat.reduceAdd, ↓reduceIte, Nat.reduceBEq, core_box, box_tr, List.length_nil, List.length_cons, l4, cf, lc, ↓b_one, z1, m1, m2, s2, ba, z2, m3, la, s1, bp, lp, aw, Int.reduceBEq, Int.reduceBNe]
      rfl
end Go.Proofs.Ytkogkfpiijmbgaa.Ai
