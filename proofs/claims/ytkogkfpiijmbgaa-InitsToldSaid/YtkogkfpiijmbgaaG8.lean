/- Seat of layer 11: the chapter's example holds. No condition. -/
import Derived.Test.YtkogkfpiijmbgaaG7
set_option linter.unusedSimpArgs false
set_option linter.unusedVariables false
set_option linter.unusedSectionVars false
namespace Go.Proofs.Ytkogkfpiijmbgaa.Ai
open Go Go.Ai
def saysTwo (n x : Int) : Option (R × List AO) → Bool
  | some (.ret (.tup [.lit (.int .i64 a), .lit (.int .i64 b)]), _) => a == n && b == x
  | _ => false
theorem saysTwo_some {n x : Int} {r : Option (R × List AO)} (h : saysTwo n x r = true) : ∃ H', r = some (.ret (.tup [litI .i64 n, litI .i64 x]), H') := by
  unfold saysTwo at h
  split at h
  · rw [Bool.and_eq_true, beq_iff_eq, beq_iff_eq] at h
    obtain ⟨rfl, rfl⟩ := h
    exact ⟨_, rfl⟩
  · cases h
theorem of_call {s : ByteArray} {n x : Int} {k : Nat} (h : saysTwo n x (callB (lookF tb) (ovP k) (lookM mtl) mds k 17 [litS s] []) = true) (H : List AO) (id : Nat) : callV cw mds 17 [litS s] H id = some (.val (.tup [litI .i64 n, litI .i64 x]) none) := by
  obtain ⟨H', h⟩ := saysTwo_some h
  exact callV_pureT rfl rfl (cw_run k h) rfl
set_option maxRecDepth 1000000 in
theorem of1 : saysTwo 0 0 (callB (lookF tb) (ovP 100) (lookM mtl) mds 100 17 [litS (bs [48, 32, 45, 62, 32, 112, 114, 101, 32, 110, 32, 43, 32, 49])] []) = true := by kernel_rfl
set_option maxRecDepth 1000000 in
theorem of2 : saysTwo 1 0 (callB (lookF tb) (ovP 100) (lookM mtl) mds 100 17 [litS (bs [112, 114, 101, 32, 110])] []) = true := by kernel_rfl
set_option maxRecDepth 1000000 in
theorem of3 : saysTwo 0 110 (callB (lookF tb) (ovP 100) (lookM mtl) mds 100 17 [litS (bs [112, 114, 101, 32, 112, 114, 101, 32, 110])] []) = true := by kernel_rfl
set_option maxRecDepth 1000000 in
theorem of4 : saysTwo 1 0 (callB (lookF tb) (ovP 100) (lookM mtl) mds 100 17 [litS (bs [40, 112, 114, 101, 32, 110, 41, 32, 102, 98, 121, 32, 48])] []) = true := by kernel_rfl
set_option maxRecDepth 1000000 in
theorem of5 : saysTwo 0 110 (callB (lookF tb) (ovP 100) (lookM mtl) mds 100 17 [litS (bs [49, 32, 102, 98, 121, 32, 112, 114, 101, 32, 110])] []) = true := by kernel_rfl
set_option maxHeartbeats 4000000 in
theorem awake9_tells : ∃ H', cw 9 [] [] = some (.ret (litB true), H') := by
  refine ⟨[], cw_of fn9 (c := c9) rfl rfl rfl rfl ?_⟩
  simp -implicitDefEqProofs only [c9, aW, ↓aP, makes, Nat.reduceLT, Nat.reduceEqDiff, Nat.reduceAdd, ↓reduceIte, Nat.reduceBEq, of_call of1, of_call of2, of_call of3, of_call of4, of_call of5]
  rfl
theorem awake9_call (H : List AO) (id : Nat) : callV cw mds 9 [] H id = some (.val (litB true) none) := by
  obtain ⟨H', h⟩ := awake9_tells
  exact callV_pure rfl rfl h rfl
end Go.Proofs.Ytkogkfpiijmbgaa.Ai
namespace Go.Proofs.Ytkogkfpiijmbgaa.Ai
open Go Go.Ai
theorem callV_up {f : FuncId} {args : List AV} {H : List AO} {id : Nat} {o : Out} (h : callV cw0 mds f args H id = some o) : callV cw mds f args H id = some o := callV_mono (callW_ovLe ovLe) h
theorem shp_of : ∀ t : Tr, Sm t → allT t = true → Shp t := by
  refine Tr.ind fun k n z c ts p ih S h => ?_
  rw [allT_eq, Bool.and_eq_true] at h
  obtain ⟨h1, h2⟩ := h
  simp only [Tr.k, Tr.n, Tr.ts] at h1 h2
  rw [List.all_eq_true] at h2
  refine .mk k n z c ts p (fun hk => ?_) (fun hk => ?_) S.len fun a ha => ih a ha (S.sub a ha) (h2 a ha)
  · subst hk
    unfold ownB at h1
    rw [if_neg (by decide), if_neg (by decide), if_neg (by decide), if_neg (by decide), if_neg (by decide), if_pos rfl, Bool.and_eq_true] at h1
    exact eq_of_beq h1.1
  · subst hk
    unfold ownB at h1
    rw [if_neg (by decide), if_neg (by decide), if_neg (by decide), if_neg (by decide), if_pos rfl, Bool.and_eq_true] at h1
    exact eq_of_beq h1.1
theorem shp_right {t : Tr} (S : Sm t) (h : rightT t = true) : Shp t := by
  unfold rightT at h
  rw [Bool.and_eq_true] at h
  exact shp_of t S h.2
theorem mx_01 : ∀ (r : List Int) (a : Int), (a = 0 ∨ a = 1) → (∀ x ∈ r, x = 0 ∨ x = 1) → (mx a r = 0 ∨ mx a r = 1) ∧ (mx a r = 0 ↔ a = 0 ∧ ∀ x ∈ r, x = 0)
  | [], a, ha, _ => by
    refine ⟨ha, fun h => ⟨h, fun x hx => by cases hx⟩, fun h => h.1⟩
  | b :: r, a, ha, hr => by
    have hb := hr b (List.mem_cons_self ..)
    have hm : (if b > a then b else a) = 0 ∨ (if b > a then b else a) = 1 := by split <;> assumption
    obtain ⟨h1, h2⟩ := mx_01 r (if b > a then b else a) hm fun x hx => hr x (List.mem_cons_of_mem _ hx)
    have e : mx a (b :: r) = mx (if b > a then b else a) r := rfl
    rw [e]
    refine ⟨h1, h2.trans ⟨fun ⟨x1, x2⟩ => ?_, fun ⟨x1, x2⟩ => ?_⟩⟩
    · split at x1
      · omega
      · refine ⟨x1, fun y hy => ?_⟩
        rcases List.mem_cons.1 hy with rfl | hy
        · omega
        · exact x2 y hy
    · have := x2 b (List.mem_cons_self ..)
      refine ⟨by split <;> omega, fun y hy => x2 y (List.mem_cons_of_mem _ hy)⟩
theorem mxL_01 (ls : List Int) (h : ∀ x ∈ ls, x = 0 ∨ x = 1) : (mxL ls = 0 ∨ mxL ls = 1) ∧ (mxL ls = 0 ↔ ∀ x ∈ ls, x = 0) := by
  cases ls with
  | nil => exact ⟨.inl rfl, fun _ x hx => (by cases hx), fun _ => rfl⟩
  | cons a r =>
    obtain ⟨h1, h2⟩ := mx_01 (r ++ [0]) a (h a (List.mem_cons_self ..)) fun x hx => by
      rcases List.mem_append.1 hx with hx | hx
      · exact h x (List.mem_cons_of_mem _ hx)
      · exact .inl (List.mem_singleton.1 hx)
    refine ⟨h1, h2.trans ⟨fun ⟨x1, x2⟩ y hy => ?_, fun x => ⟨x a (List.mem_cons_self ..), fun y hy => ?_⟩⟩⟩
    · rcases List.mem_cons.1 hy with rfl | hy
      · exact x1
      · exact x2 y (List.mem_append_left _ hy)
    · rcases List.mem_append.1 hy with hy | hy
      · exact x y (List.mem_cons_of_mem _ hy)
      · exact List.mem_singleton.1 hy
def LT (t : Tr) : Prop := ∀ n, lev t = .ok n → (n = 0 ∨ n = 1) ∧ (n = 0 ↔ told t = true)
theorem levL_told : ∀ (ts : List Tr) (ls : List Int), (∀ a ∈ ts, LT a) → levL ts = .ok ls → (∀ x ∈ ls, x = 0 ∨ x = 1) ∧ ((∀ x ∈ ls, x = 0) ↔ toldL ts = true) ∧ (∀ a r, ts = a :: r → (ls.headD 0 = 0 ∨ ls.headD 0 = 1) ∧ (ls.headD 0 = 0 ↔ told a = true))
  | [], ls, h, e => by
    cases e
    exact ⟨fun x hx => (by cases hx), ⟨fun _ => rfl, fun _ x hx => (by cases hx)⟩, fun a r h => by cases h⟩
  | a :: r, ls, h, e => by
    rw [levL] at e
    cases ha : lev a with
    | error q => rw [ha] at e; cases e
    | ok n =>
      rw [ha] at e
      cases hr : levL r with
      | error q => rw [hr] at e; cases e
      | ok l =>
        rw [hr] at e
        cases e
        obtain ⟨x1, x2⟩ := h a (List.mem_cons_self ..) n ha
        obtain ⟨y1, y2, _⟩ := levL_told r l (fun b hb => h b (List.mem_cons_of_mem _ hb)) hr
        refine ⟨fun x hx => ?_, ?_, fun b s hb => ?_⟩
        · rcases List.mem_cons.1 hx with rfl | hx
          · exact x1
          · exact y1 x hx
        · rw [toldL, Bool.and_eq_true, ← x2, ← y2]
          exact ⟨fun h => ⟨h n (List.mem_cons_self ..), fun x hx => h x (List.mem_cons_of_mem _ hx)⟩, fun h x hx => by
            rcases List.mem_cons.1 hx with rfl | hx
            · exact h.1
            · exact h.2 x hx⟩
        · cases hb
          exact ⟨x1, x2⟩
theorem lev_told : ∀ t : Tr, Shp t → LT t := by
  refine Tr.ind fun k n z c ts p ih S m h => ?_
  generalize hE : Tr.mk k n z c ts p = t at *
  have hts0 : t.ts = ts := by rw [← hE]; rfl
  rw [← hts0] at ih
  clear hts0 hE
  rw [lev_eq] at h
  rw [told_eq]
  cases hL : levL t.ts with
  | error q => rw [hL] at h; cases h
  | ok ls =>
    rw [hL] at h
    simp only at h
    obtain ⟨a1, a2, a3⟩ := levL_told t.ts ls (fun a ha => ih a ha (S.sub a ha)) hL
    unfold top at h
    by_cases c1 : t.k = 6 ∧ isS t.n [112, 114, 101] = true
    · rw [if_pos c1] at h ⊢
      split at h
      · simp only [Except.ok.injEq] at h; subst h; simp
      · cases h
    · rw [if_neg c1] at h ⊢
      by_cases k7 : t.k = 7
      · have h2 := S.two k7
        obtain ⟨a, b, hts⟩ : ∃ a b, t.ts = [a, b] := by
          match h : t.ts, h2 with
          | [a, b], _ => exact ⟨a, b, rfl⟩
        obtain ⟨b1, b2⟩ := a3 a [b] hts
        have hH : toldH t.ts = told a := by rw [hts]; rfl
        cases hf : isS t.n [102, 98, 121] with
        | true =>
          rw [hf] at h
          rw [if_pos ⟨k7, rfl⟩] at h
          rw [if_pos ⟨k7, .inr rfl⟩, hH]
          split at h
          · simp only [Except.ok.injEq] at h; subst h; exact ⟨b1, b2⟩
          · cases h
        | false =>
          rw [hf] at h
          rw [if_neg (by simp)] at h
          cases hp : isS t.n [45, 62] with
          | true =>
            rw [hp] at h
            rw [if_pos ⟨k7, rfl⟩] at h
            rw [if_pos ⟨k7, .inl rfl⟩, hH]
            simp only [Except.ok.injEq] at h; subst h; exact ⟨b1, b2⟩
          | false =>
            rw [hp] at h
            rw [if_neg (by simp), if_neg (by omega)] at h
            rw [if_neg (by simp), if_neg (by omega)]
            simp only [Except.ok.injEq] at h; subst h
            obtain ⟨m1, m2⟩ := mxL_01 ls a1
            exact ⟨m1, m2.trans a2⟩
      · rw [if_neg (fun h => k7 h.1), if_neg (fun h => k7 h.1)] at h
        rw [if_neg (fun h => k7 h.1)]
        by_cases k9 : t.k = 9 ∨ t.k = 10
        · rw [if_pos k9] at h ⊢
          have := bad_zero t.ts ls m h
          subst this
          simp
        · rw [if_neg k9] at h ⊢
          simp only [Except.ok.injEq] at h; subst h
          obtain ⟨m1, m2⟩ := mxL_01 ls a1
          exact ⟨m1, m2.trans a2⟩
theorem lv0 (p : Int × Int × Int) : lvA p = .tup [litI .i64 p.1, litI .i64 p.2.1, litI .i64 p.2.2] := rfl
theorem told4_tells (t : Tr) : ∃ H', cw 4 [.agg t.cells] [] = some (.ret (litB true), H') := by
  obtain ⟨H6, f6⟩ := few6_tells t
  have cf : ∀ H id, callV cw mds 6 [.agg t.cells] H id = some (.val (litB (few t)) none) := fun H id => callV_up (callV_pureA rfl (by rw [List.all_cons, whole_cells]; rfl) f6 rfl)
  have l4 : Ai.load [rowT t] (some 4) (.ptr 0 0) = some (.agg t.cells) := ld4 rfl
  suffices h : retOf ((codeW cw (lookM mtl) mds c4 (initFr 0 [.agg t.cells]) []).bind (fin fn4)) = some (.ret (litB true)) by
    obtain ⟨H', h⟩ := retOf_some h
    exact ⟨H', cw_of fn4 rfl rfl rfl rfl h⟩
  have aw := awake9_call
  cases hf : few t with
  | false =>
    rw [hf] at cf
    simp -implicitDefEqProofs only [c4, aW, ↓aP, makes, Nat.reduceLT, Nat.reduceEqDiff, Nat.reduceAdd, ↓reduceIte, Nat.reduceBEq, core_box, box_tr, List.length_nil, l4, cf]
    rfl
  | true =>
    rw [hf] at cf
    obtain ⟨S, hd⟩ := few_sm1 hf
    have lc := level_call t S (by omega) (fun h => shp_right S h)
    unfold levelOut at lc
    cases hr : rightT t with
    | false =>
      rw [hr, if_neg (by decide), lv0] at lc
      simp only at lc
      simp -implicitDefEqProofs only [c4, aW, ↓aP, makes, Nat.reduceLT, Nat.reduceEqDiff, Nat.reduceAdd, ↓reduceIte, Nat.reduceBEq, core_box, box_tr, List.length_nil, l4, cf, lc, aw, Int.reduceBEq, Int.reduceBNe]
      rfl
    | true =>
      rw [hr, if_pos rfl] at lc
      have Sh := shp_right S hr
      cases hv : lev t with
      | error q =>
        rw [hv, lv0] at lc
        simp only at lc
        simp -implicitDefEqProofs only [c4, aW, ↓aP, makes, Nat.reduceLT, Nat.reduceEqDiff, Nat.reduceAdd, ↓reduceIte, Nat.reduceBEq, core_box, box_tr, List.length_nil, l4, cf, lc, aw, Int.reduceBEq, Int.reduceBNe]
        rfl
      | ok n =>
        rw [hv, lv0] at lc
        simp only at lc
        obtain ⟨n1, n2⟩ := lev_told t Sh n hv
        have tc := fun H id => callV_up (told_call t Sh H id)
        have e : ((n == 0) == told t) = true := by
          rw [beq_iff_eq]
          cases ht : told t with
          | true => exact beq_iff_eq.2 (n2.2 ht)
          | false => exact beq_eq_false_iff_ne.2 fun h => by rw [n2.1 h] at ht; cases ht
        simp -implicitDefEqProofs only [c4, aW, ↓aP, makes, Nat.reduceLT, Nat.reduceEqDiff, Nat.reduceAdd, ↓reduceIte, Nat.reduceBEq, core_box, box_tr, List.length_nil, l4, cf, lc, tc, aw, Int.reduceBEq, Int.reduceBNe, e, show (0 : Int) ≤ n by omega, show n ≤ (1 : Int) by omega]
        rfl
end Go.Proofs.Ytkogkfpiijmbgaa.Ai
