/- Layer 11, the document's side: tokens. No condition. -/
import Derived.Test.YtkogkfpiijmbgaaG7
set_option linter.unusedSimpArgs false
set_option linter.unusedVariables false
set_option linter.unusedSectionVars false
namespace Go.Proofs.Ytkogkfpiijmbgaa.Ai
open Go Go.Ai
def OutO (K : List AO) (A : AV) (l : List Tk) : Prop := (l = [] ∧ A = .sl 0 [] (some 0)) ∨ ∃ q, A = .own q 0 l.length 3 none ∧ K[q]? = some (.row (flatT l) 54)
theorem OutO.at {K : List AO} {A : AV} {l : List Tk} (h : OutO K A l) (x : AO) : OutOk (K ++ [x]) A l K.length := by
  rcases h with h | ⟨q, h1, h2⟩
  · exact .inl h
  · have := (List.getElem?_eq_some_iff.1 h2).1
    exact .inr ⟨q, by omega, h1, get_app h2⟩
theorem OutO.of {K : List AO} {A : AV} {l : List Tk} {p : Nat} (h : OutOk K A l p) : OutO K A l := by
  rcases h with h | ⟨q, _, h1, h2⟩
  · exact .inl h
  · exact .inr ⟨q, h1, h2⟩
theorem app_own {K : List AO} {q : Nat} {l : List Tk} (h3 : K[q]? = some (.row (flatT l) 54)) (t : Tk) (c : Option Nat) (hl : l.length ≤ 70001) (d : Option Nat) (fr : Fr) (k : Fr → List AO → Option S) :
    opS (append K K.length 3 32 54 (.own q 0 l.length 3 none) (.sl 3 [tcells t] c)) d fr K k = k (putD fr d (.own K.length 0 (l ++ [t]).length 3 none)) (setL K q .dead ++ [.row (flatT (l ++ [t])) 54]) := by
  have b1 : Nat.ble (l.length * 3) (flatT l).length = true := Nat.ble_eq_true_of_le (by rw [flatT_len]; omega)
  have b2 : Nat.ble ((l.length + 1) * 32) 140737488355328 = true := Nat.ble_eq_true_of_le (by omega)
  have tk : (flatT l).take (l.length * 3) = flatT l := List.take_of_length_le (by rw [flatT_len]; omega)
  have e : append K K.length 3 32 54 (.own q 0 l.length 3 none) (.sl 3 [tcells t] c) = some (.wr (.own K.length 0 (l ++ [t]).length 3 none) (setL K q .dead ++ [.row (flatT (l ++ [t])) 54])) := by
    unfold append
    simp only [elems, BEq.rfl, Bool.true_or, cond_true, Option.bind_some, List.length_cons, List.length_nil, Nat.zero_add, Nat.reduceBEq, cond_false, rowAt_of h3, b1, b2, Bool.and_self, List.drop_zero, tk, List.flatten_cons, List.flatten_nil, List.append_nil]
    rw [flatT_snoc]
    simp
  rw [e, opS_wr]
theorem nextK_text {b : List UInt8} {i e : Nat} {t : Tk} (h : nextK b i = some (t, e)) : t.2.1 = textOf b i e ∧ t.2.2 = i := by
  unfold nextK at h
  rw [Option.map_eq_some_iff] at h
  obtain ⟨⟨k, e'⟩, _, h2⟩ := h
  simp only [Prod.mk.injEq] at h2
  obtain ⟨rfl, rfl⟩ := h2
  exact ⟨rfl, rfl⟩
theorem text_size {b : List UInt8} {i e : Nat} (h1 : i ≤ e) (h2 : e ≤ b.length) : (textOf b i e).size = e - i := by
  show (((b.drop i).take (e - i)).toArray).size = e - i
  rw [List.size_toArray, List.length_take, List.length_drop]
  omega
theorem toks29_loop {b : List UInt8} (hb : b.length ≤ 65536) (s : ByteArray) (hsb : s.data.toList = b) : ∀ (n i : Nat) (A : AV) (l : List Tk) (K : List AO), b.length - i ≤ n → i ≤ b.length → l.length ≤ i → OutO K A l →
    match toksN b n i with
    | .ok l' => ∃ A' x K', loopW (codeW cw0 (lookM mtl) mds c29l0) [5, 6, 7] [(5, litS s), (6, A), (7, litI .i64 i)] K = some (.exit 0, [(5, litS s), (6, A'), (7, x), (20, litB false)], K') ∧ OutO K' A' (l ++ l') ∧ (l ++ l').length ≤ b.length
    | .error q => ∃ K', loopW (codeW cw0 (lookM mtl) mds c29l0) [5, 6, 7] [(5, litS s), (6, A), (7, litI .i64 i)] K = some (.ret, [(2, .sl 0 [] (some 0)), (3, litI .i64 40), (4, litI .i64 q)], K')
  | n, i, A, l, K, hn, hi, hll, hO => by
    have hsz : s.size = b.length := by rw [← hsb]; simp
    by_cases hl : i < b.length
    case neg =>
      have e : toksN b n i = .ok [] := by
        cases n with
        | zero => rfl
        | succ n => rw [toksN, if_neg hl]
      rw [e]
      refine ⟨A, litI .i64 i, K, ?_, by rw [List.append_nil]; exact hO, by rw [List.append_nil]; omega⟩
      refine loopW_out ?_ (by simp)
      simp -implicitDefEqProofs only [c29l0, aW, ↓aP, makes, Nat.reduceLT, Nat.reduceEqDiff, Nat.reduceAdd, ↓reduceIte, Nat.reduceBEq, lenS_str, show ¬ ((i : Int) < s.size) by omega]
    have hlt : (i : Int) < s.size := by omega
    obtain ⟨n, rfl⟩ : ∃ m, n = m + 1 := ⟨n - 1, by omega⟩
    rw [toksN, if_pos hl]
    have oc := one_call s (by omega) i (by omega)
    rw [hsb] at oc
    unfold oneOut at oc
    cases hk : nextK b i with
    | none =>
      rw [hk] at oc
      simp only at oc ⊢
      refine ⟨K ++ [tokR 0 (bs []) 0], ?_⟩
      refine loopW_out ?_ (by simp)
      simp -implicitDefEqProofs only [c29l0, aW, ↓aP, makes, Nat.reduceLT, Nat.reduceEqDiff, Nat.reduceAdd, ↓reduceIte, Nat.reduceBEq, lenS_str, hlt, oc, tok_store]
    | some te =>
      obtain ⟨t, e⟩ := te
      rw [hk] at oc
      simp only at oc
      have le := nextK_le hl hk
      obtain ⟨tx, tp⟩ := nextK_text hk
      have hx : K.length < (K ++ [tokR t.1 t.2.1 t.2.2]).length := by simp
      have t3 : Ai.load (K ++ [tokR t.1 t.2.1 t.2.2]) (some 3) (.ptr K.length 0) = some (tokA t.1 t.2.1 t.2.2) := tk3 (get_last K _)
      obtain ⟨A4, K4, ap, O4, _, hp4⟩ := app_out (hO.at (tokR t.1 t.2.1 t.2.2)) (get_last K _) t (some 1) (by omega)
      have t1 : Ai.load K4 none (.ptr K.length 1) = some (litS t.2.1) := tk1 hp4
      have ts := text_size (b := b) (i := i) (e := e) (by omega) le.2
      rw [← tx] at ts
      have wa : IntKind.wrap .i64 ((i : Int) + (t.2.1.size : Int)) = ((e : Nat) : Int) := by rw [Go.Ai.wrap_small] <;> omega
      have bc := blank_call s (by omega) e (by omega)
      rw [hsb] at bc
      have sle := skipF_le le.2
      have IH := toks29_loop hb s hsb n (skipF b e) A4 (l ++ [t]) K4 (by omega) sle.1 (by rw [List.length_append]; simp only [List.length_cons, List.length_nil]; omega) (OutO.of O4)
      have bt : ∀ {H : List AO} {id : Nat} {fr : Fr} (x : X), ev fr x = tokA t.1 t.2.1 t.2.2 → core cw0 (lookM mtl) mds H id (.bslice false 3 1 [litI .i64 0, litS (bs []), litI .i64 0] [(0, x)] 54) fr = some (.val (.sl 3 [tcells t] (some 1)) none) := fun x hx => bsl_tok hx
      have step : codeW cw0 (lookM mtl) mds c29l0 (keep [5, 6, 7] [(5, litS s), (6, A), (7, litI .i64 i)]) K = some (.normal, [(5, litS s), (6, A4), (7, litI .i64 (skipF b e : Nat))], K4) := by
        simp -implicitDefEqProofs only [c29l0, aW, ↓aP, makes, Nat.reduceLT, Nat.reduceEqDiff, Nat.reduceAdd, ↓reduceIte, Nat.reduceBEq, lenS_str, hlt, oc, tok_store, t3, bt, core_app, ap, fadr_ptr, t1, wa, bc]
      simp only
      cases hr : toksN b n (skipF b e) with
      | error q =>
        rw [hr] at IH
        obtain ⟨K', L⟩ := IH
        exact ⟨K', loopW_round step L⟩
      | ok l' =>
        rw [hr] at IH
        obtain ⟨A', x, K', L, O', hlen⟩ := IH
        rw [List.append_assoc, List.singleton_append] at O' hlen
        exact ⟨A', x, K', loopW_round step L, O', hlen⟩
  termination_by n => n
theorem toks29_call (b : List UInt8) (hb : b.length ≤ 65536) (H : List AO) (id : Nat) : callV cw0 mds 29 [bytesA b] H id = some (.val (toksOut b) none) := by
  have hsb : (⟨b.toArray⟩ : ByteArray).data.toList = b := rfl
  have hsz : (⟨b.toArray⟩ : ByteArray).size = b.length := by show b.toArray.size = _; simp
  have cv : ∀ H, convV H .ofBytes (bytesA b) = some (.val (litS ⟨b.toArray⟩) none) := fun H => conv_bytes H b
  generalize (⟨b.toArray⟩ : ByteArray) = s at *
  have bc := blank_call s (by omega) 0 (Nat.zero_le _)
  rw [hsb, show ((0 : Nat) : Int) = 0 from rfl] at bc
  have sle := skipF_le (b := b) (i := 0) (Nat.zero_le _)
  have L := toks29_loop hb s hsb b.length (skipF b 0) (.sl 0 [] (some 0)) [] [] (by omega) sle.1 (by simp) (.inl ⟨rfl, rfl⟩)
  have hgt : ¬ ((65536 : Int) < b.length) := by omega
  unfold toksOut toksF
  cases hr : toksN b b.length (skipF b 0) with
  | error q =>
    rw [hr] at L
    obtain ⟨K2, L⟩ := L
    have : ∃ H', cw0 29 [bytesA b] [] = some (.ret (.tup [.sl 0 [] (some 0), litI .i64 40, litI .i64 (q : Nat)]), H') := by
      refine cw0_ret fn29 (c := c29) rfl rfl rfl rfl ?_
      simp -implicitDefEqProofs only [c29, aW, ↓aP, makes, Nat.reduceLT, Nat.reduceEqDiff, Nat.reduceAdd, ↓reduceIte, Nat.reduceBEq, lenV_bytes, hgt, core_convV, cv, bc, L]
      rfl
    obtain ⟨H', this⟩ := this
    exact callV_pureT rfl rfl this rfl
  | ok l =>
    rw [hr] at L
    simp only [List.nil_append] at L
    obtain ⟨A2, x2, K2, L, O2, hlen⟩ := L
    have bt : ∀ {H : List AO} {id : Nat} {fr : Fr} (x : X), ev fr x = tokA 0 (bs []) b.length → core cw0 (lookM mtl) mds H id (.bslice false 3 1 [litI .i64 0, litS (bs []), litI .i64 0] [(0, x)] 54) fr = some (.val (.sl 3 [tcells ((0 : Int), bs [], b.length)] (some 1)) none) := fun x hx => bsl_tok hx
    have ap : ∃ A3 K3, (∀ (d : Option Nat) (fr : Fr) (k : Fr → List AO → Option S), opS (append K2 K2.length 3 32 54 A2 (.sl 3 [tcells ((0 : Int), bs [], b.length)] (some 1))) d fr K2 k = k (putD fr d A3) K3) ∧ ∃ q, A3 = .own q 0 (l ++ [((0 : Int), bs [], b.length)]).length 3 none ∧ K3[q]? = some (.row (flatT (l ++ [((0 : Int), bs [], b.length)])) 54) := by
      rcases O2 with ⟨rfl, rfl⟩ | ⟨q, rfl, hq⟩
      · refine ⟨.own K2.length 0 1 3 none, K2 ++ [.row (tcells ((0 : Int), bs [], b.length)) 54], fun d fr k => rfl, K2.length, rfl, ?_⟩
        rw [get_last]; unfold flatT; simp
      · refine ⟨.own K2.length 0 (l ++ [((0 : Int), bs [], b.length)]).length 3 none, setL K2 q .dead ++ [.row (flatT (l ++ [((0 : Int), bs [], b.length)])) 54], app_own hq _ _ (by omega), K2.length, rfl, ?_⟩
        have := get_last (setL K2 q .dead) (.row (flatT (l ++ [((0 : Int), bs [], b.length)])) 54)
        rwa [setL_len] at this
    obtain ⟨A3, K3, ap, q, rfl, hq⟩ := ap
    have hl1 : lenS (litS s) = some (litI .i64 b.length) := by rw [lenS_str, hsz]
    have this : cw0 29 [bytesA b] [] = some (.ret (.tup [.own q 0 (l ++ [((0 : Int), bs [], b.length)]).length 3 none, litI .i64 0, litI .i64 0]), K3) := by
      refine cw0_of fn29 (c := c29) rfl rfl rfl rfl ?_
      simp -implicitDefEqProofs only [c29, aW, ↓aP, makes, Nat.reduceLT, Nat.reduceEqDiff, Nat.reduceAdd, ↓reduceIte, Nat.reduceBEq, lenV_bytes, hgt, core_convV, cv, bc, L, hl1, core_build3, build3V_tok, bt, core_app, ap]
      rfl
    have fz := frz_toks (k := 13) hq
    unfold callV
    rw [show mds 29 = .pure from rfl]
    simp only
    rw [show mapL (frz H frzF) [bytesA b] = some ([bytesA b], []) from rfl]
    simp only [Option.bind_some]
    rw [this]
    simp only [Option.bind_some]
    rw [show frzF = 15 + 1 from rfl, frz]
    simp only [mapL, fz, Option.bind_some]
    rfl
end Go.Proofs.Ytkogkfpiijmbgaa.Ai
namespace Go.Proofs.Ytkogkfpiijmbgaa.Ai
open Go Go.Ai
def dotF (s : ByteArray) : Int := Lib.indexByte s.data.toList 46
theorem indexByte_lt : ∀ (l : List UInt8) (c : UInt8), -1 ≤ Lib.indexByte l c ∧ Lib.indexByte l c < l.length
  | [], c => by simp [Lib.indexByte]
  | b :: l, c => by
    have := indexByte_lt l c
    unfold Lib.indexByte
    rw [List.length_cons]
    split
    · omega
    · split <;> omega
theorem dotF_rng (s : ByteArray) : -1 ≤ dotF s ∧ dotF s < s.size := by
  have := indexByte_lt s.data.toList 46
  have e : s.data.toList.length = s.size := by simp
  rw [e] at this; exact this
theorem ib72_call (s : ByteArray) (H : List AO) (id : Nat) : callV cw0 mds 72 [litS s, litI .u8 46] H id = some (.val (litI .i64 (dotF s)) none) := by
  have h79 : cw0 79 [litS s, litI .u8 46] [] = some (.ret (litI .i64 (dotF s)), []) := cw0_ov (G := byteG) rfl rfl
  have c79 : ∀ H id, callV cw0 mds 79 [litS s, litI .u8 46] H id = some (.val (litI .i64 (dotF s)) none) := fun H id => callV_pure rfl rfl h79 rfl
  have key : ∃ H', cw0 72 [litS s, litI .u8 46] [] = some (.ret (litI .i64 (dotF s)), H') := by
    refine cw0_ret fn72 (c := c72) rfl rfl rfl rfl ?_
    simp -implicitDefEqProofs only [c72, aW, ↓aP, makes, Nat.reduceLT, Nat.reduceEqDiff, Nat.reduceAdd, ↓reduceIte, Nat.reduceBEq, c79]
    rfl
  obtain ⟨H', key⟩ := key
  exact callV_pure rfl rfl key rfl
theorem ix69_call (s : ByteArray) (H : List AO) (id : Nat) : callV cw0 mds 69 [litS s, litS (bs [46])] H id = some (.val (litI .i64 (dotF s)) none) := by
  have c72' := ib72_call s
  have l1 : lenS (litS (bs [46])) = some (litI .i64 1) := rfl
  have i0 : idxS (litS (bs [46])) (litI .i64 0) = some (litI .u8 46) := rfl
  have key : ∃ H', cw0 69 [litS s, litS (bs [46])] [] = some (.ret (litI .i64 (dotF s)), H') := by
    refine cw0_ret fn69 (c := c69) rfl rfl rfl rfl ?_
    cases he : ((bs [46]).data.toList == s.data.toList) with
    | true =>
      have hz : dotF s = 0 := by
        unfold dotF
        rw [← eq_of_beq he]; rfl
      rw [hz]
      simp -implicitDefEqProofs only [c69, aW, ↓aP, makes, Nat.reduceLT, Nat.reduceEqDiff, Nat.reduceAdd, ↓reduceIte, Nat.reduceBEq, l1, bin_eqlS, he, Int.reduceBEq]
      rfl
    | false =>
      simp -implicitDefEqProofs only [c69, aW, ↓aP, makes, Nat.reduceLT, Nat.reduceEqDiff, Nat.reduceAdd, ↓reduceIte, Nat.reduceBEq, l1, bin_eqlS, he, Int.reduceBEq, i0, c72']
      rfl
  obtain ⟨H', key⟩ := key
  exact callV_pure rfl rfl key rfl
theorem slS_to {s : ByteArray} {n : Nat} (h : n ≤ s.size) {k : IntKind} : sliceS (litS s) none (some (litI k (n : Int))) = some (litS (s.extract 0 n)) := by
  show (cuts s.size none none (some (litI k (n : Int))) none).bind _ = _
  simp only [cuts, bound_nat h, Option.bind_some]
theorem slS_from {s : ByteArray} {n : Nat} (h : n ≤ s.size) {k : IntKind} : sliceS (litS s) (some (litI k (n : Int))) none = some (litS (s.extract n s.size)) := by
  show (cuts s.size none (some (litI k (n : Int))) none none).bind _ = _
  simp only [cuts, bound_nat h, Option.bind_some]
def headS' (s : ByteArray) : ByteArray := if 0 ≤ dotF s then s.extract 0 (dotF s).toNat else s
def tailS' (s : ByteArray) : ByteArray := if 0 ≤ dotF s then s.extract ((dotF s).toNat + 1) s.size else bs []
theorem cut65_call (s : ByteArray) (hs : s.size ≤ 65536) (H : List AO) (id : Nat) : callV cw0 mds 65 [litS s, litS (bs [46])] H id = some (.val (.tup [litS (headS' s), litS (tailS' s), litB (decide (0 ≤ dotF s))]) none) := by
  have ix := ix69_call s
  have l1 : lenS (litS (bs [46])) = some (litI .i64 1) := rfl
  have rng := dotF_rng s
  have key : ∃ H', cw0 65 [litS s, litS (bs [46])] [] = some (.ret (.tup [litS (headS' s), litS (tailS' s), litB (decide (0 ≤ dotF s))]), H') := by
    refine cw0_ret fn65 (c := c65) rfl rfl rfl rfl ?_
    unfold headS' tailS'
    by_cases h : 0 ≤ dotF s
    · rw [if_pos h, if_pos h, decide_eq_true h]
      have e : dotF s = ((dotF s).toNat : Int) := by omega
      have t1 := slS_to (s := s) (n := (dotF s).toNat) (by omega) (k := .i64)
      have t2 := slS_from (s := s) (n := (dotF s).toNat + 1) (by omega) (k := .i64)
      have w := wrap1 (n := (dotF s).toNat) (by omega)
      rw [← e] at t1 w
      simp -implicitDefEqProofs only [c65, aW, ↓aP, makes, Nat.reduceLT, Nat.reduceEqDiff, Nat.reduceAdd, ↓reduceIte, Nat.reduceBEq, ix, h, core_slSV, t1, l1, w, t2]
      rfl
    · rw [if_neg h, if_neg h, decide_eq_false h]
      simp -implicitDefEqProofs only [c65, aW, ↓aP, makes, Nat.reduceLT, Nat.reduceEqDiff, Nat.reduceAdd, ↓reduceIte, Nat.reduceBEq, ix, h, core_slSV]
      rfl
  obtain ⟨H', key⟩ := key
  exact callV_pureT rfl rfl key rfl
theorem cut49_call (s : ByteArray) (hs : s.size ≤ 65536) (H : List AO) (id : Nat) : callV cw0 mds 49 [litS s, litS (bs [46])] H id = some (.val (.tup [litS (headS' s), litS (tailS' s), litB (decide (0 ≤ dotF s))]) none) := by
  have ix := cut65_call s hs
  have key : ∃ H', cw0 49 [litS s, litS (bs [46])] [] = some (.ret (.tup [litS (headS' s), litS (tailS' s), litB (decide (0 ≤ dotF s))]), H') := by
    refine cw0_ret fn49 (c := c49) rfl rfl rfl rfl ?_
    simp -implicitDefEqProofs only [c49, aW, ↓aP, makes, Nat.reduceLT, Nat.reduceEqDiff, Nat.reduceAdd, ↓reduceIte, Nat.reduceBEq, ix]
    rfl
  obtain ⟨H', key⟩ := key
  exact callV_pureT rfl rfl key rfl
def numL (s : ByteArray) : Bool := decide ((headS' s).size ≤ 300 ∧ (tailS' s).size ≤ 300) && rightL 3 s
theorem num_call (s : ByteArray) (hs : s.size ≤ 65536) (H : List AO) (id : Nat) : callV cw0 mds 34 [litS s] H id = some (.val (litB (numL s)) none) := by
  have ct := cut49_call s hs
  have tc := token_call 3 s hs
  have key : ∃ H', cw0 34 [litS s] [] = some (.ret (litB (numL s)), H') := by
    refine cw0_ret fn34 (c := c34) rfl rfl rfl rfl ?_
    have hm : ((bif decide (((tailS' s).size : Int) > ((headS' s).size : Int)) then ((tailS' s).size : Int) else ((headS' s).size : Int)) ≤ 300) ↔ ((headS' s).size ≤ 300 ∧ (tailS' s).size ≤ 300) := by
      by_cases h : ((tailS' s).size : Int) > ((headS' s).size : Int)
      · rw [decide_eq_true h, cond_true]; omega
      · rw [decide_eq_false h, cond_false]; omega
    have hd : decide ((bif decide (((tailS' s).size : Int) > ((headS' s).size : Int)) then ((tailS' s).size : Int) else ((headS' s).size : Int)) ≤ (300 : Int)) = decide ((headS' s).size ≤ 300 ∧ (tailS' s).size ≤ 300) := decide_eq_decide.2 hm
    unfold numL
    rw [← hd]
    cases hx : decide ((bif decide (((tailS' s).size : Int) > ((headS' s).size : Int)) then ((tailS' s).size : Int) else ((headS' s).size : Int)) ≤ 300) with
    | true =>
      simp -implicitDefEqProofs only [c34, aW, ↓aP, makes, Nat.reduceLT, Nat.reduceEqDiff, Nat.reduceAdd, ↓reduceIte, Nat.reduceBEq, ct, lenS_str, core_maxiV, foldI_two, hx, tc]
      rfl
    | false =>
      simp -implicitDefEqProofs only [c34, aW, ↓aP, makes, Nat.reduceLT, Nat.reduceEqDiff, Nat.reduceAdd, ↓reduceIte, Nat.reduceBEq, ct, lenS_str, core_maxiV, foldI_two, hx, tc]
      rfl
  obtain ⟨H', key⟩ := key
  exact callV_pure rfl rfl key rfl
end Go.Proofs.Ytkogkfpiijmbgaa.Ai
namespace Go.Proofs.Ytkogkfpiijmbgaa.Ai
open Go Go.Ai
theorem right53_call (k : Int) (s : ByteArray) (hs : s.size ≤ 65536) (H : List AO) (id : Nat) : callV cw0 mds 53 [tokA k s 0] H id = some (.val (litB (rightL k s)) none) := by
  have hl : s.data.toList.length = s.size := by simp
  have tc := toks29_call s.data.toList (by omega)
  have k0 := tk0 (H := [tokR k s 0]) (p := 0) rfl
  have k1 := tk1 (H := [tokR k s 0]) (p := 0) rfl
  have key : ∃ H', cw0 53 [tokA k s 0] [] = some (.ret (litB (rightL k s)), H') := by
    unfold toksOut at tc
    unfold rightL
    cases hr : toksF s.data.toList with
    | error q =>
      rw [hr] at tc
      simp only at tc
      refine cw0_ret fn53 (c := c53) rfl rfl rfl rfl ?_
      simp -implicitDefEqProofs only [c53, aW, ↓aP, makes, Nat.reduceLT, Nat.reduceEqDiff, Nat.reduceAdd, ↓reduceIte, Nat.reduceBEq, core_box, box_tok, List.length_nil, fadr_ptr, k0, k1, core_convV, convV_bytesA, tc, lenV_sl, Int.reduceBEq]
      rfl
    | ok l =>
      rw [hr] at tc
      simp only at tc
      match l with
      | [t] =>
        have ia : ∀ k, iadr 3 (.sl 3 (([t] ++ [((0 : Int), bs [], s.data.toList.length)]).map tcells) none) (litI k 0) = some (.ip (tcells t)) := fun k => rfl
        have f1 : fadr 1 (.ip (tcells t)) = some (.ip [litS t.2.1, litI .i64 t.2.2]) := rfl
        have f0 : fadr 0 (.ip (tcells t)) = some (.ip (tcells t)) := rfl
        have g0 : (tcells t).head? = some (litI .i64 t.1) := rfl
        have hlen : lenV (.sl 3 (([t] ++ [((0 : Int), bs [], s.data.toList.length)]).map tcells) none) = some (litI .i64 2) := rfl
        simp only
        refine cw0_ret fn53 (c := c53) rfl rfl rfl rfl ?_
        generalize (AV.sl 3 (([t] ++ [((0 : Int), bs [], s.data.toList.length)]).map tcells) none) = S at tc ia hlen
        have es : sEq t.2.1 s = (t.2.1.data.toList == s.data.toList) := rfl
        rw [es]
        cases e1 : (t.1 == k) with
        | false =>
          simp -implicitDefEqProofs only [c53, aW, ↓aP, makes, Nat.reduceLT, Nat.reduceEqDiff, Nat.reduceAdd, ↓reduceIte, Nat.reduceBEq, core_box, box_tok, List.length_nil, fadr_ptr, k0, k1, core_convV, convV_bytesA, tc, hlen, ia, f0, f1, g0, e1, bin_eqlS, Int.reduceBEq, Bool.false_and]
          rfl
        | true =>
          simp -implicitDefEqProofs only [c53, aW, ↓aP, makes, Nat.reduceLT, Nat.reduceEqDiff, Nat.reduceAdd, ↓reduceIte, Nat.reduceBEq, core_box, box_tok, List.length_nil, fadr_ptr, k0, k1, core_convV, convV_bytesA, tc, hlen, ia, f0, f1, g0, e1, bin_eqlS, Int.reduceBEq, Bool.true_and]
          rfl
      | [] =>
        have hlen : lenV (.sl 3 (([] ++ [((0 : Int), bs [], s.data.toList.length)]).map tcells) none) = some (litI .i64 1) := rfl
        generalize (AV.sl 3 (([] ++ [((0 : Int), bs [], s.data.toList.length)]).map tcells) none) = S at tc hlen
        refine cw0_ret fn53 (c := c53) rfl rfl rfl rfl ?_
        simp -implicitDefEqProofs only [c53, aW, ↓aP, makes, Nat.reduceLT, Nat.reduceEqDiff, Nat.reduceAdd, ↓reduceIte, Nat.reduceBEq, core_box, box_tok, List.length_nil, fadr_ptr, k0, k1, core_convV, convV_bytesA, tc, hlen, Int.reduceBEq]
        rfl
      | t :: u :: r =>
        have hlen : lenV (.sl 3 (((t :: u :: r) ++ [((0 : Int), bs [], s.data.toList.length)]).map tcells) none) = some (litI .i64 (r.length + 3 : Nat)) := by
          have e : (((t :: u :: r) ++ [((0 : Int), bs [], s.data.toList.length)]).map tcells).length = r.length + 3 := by simp
          rw [lenV_sl, e]
        have e2 : (((r.length + 3 : Nat) : Int) == 2) = false := beq_eq_false_iff_ne.2 (by omega)
        generalize (AV.sl 3 (((t :: u :: r) ++ [((0 : Int), bs [], s.data.toList.length)]).map tcells) none) = S at tc hlen
        refine cw0_ret fn53 (c := c53) rfl rfl rfl rfl ?_
        simp -implicitDefEqProofs only [c53, aW, ↓aP, makes, Nat.reduceLT, Nat.reduceEqDiff, Nat.reduceAdd, ↓reduceIte, Nat.reduceBEq, core_box, box_tok, List.length_nil, fadr_ptr, k0, k1, core_convV, convV_bytesA, tc, hlen, e2, Int.reduceBEq]
        rfl
  obtain ⟨H', key⟩ := key
  exact callV_pureA rfl rfl key rfl
theorem token41_call (k : Int) (s : ByteArray) (hs : s.size ≤ 65536) (H : List AO) (id : Nat) : callV cw0 mds 41 [litI .i64 k, litS s] H id = some (.val (litB (rightL k s)) none) := by
  have rc := right53_call k s hs
  have bk : ∀ {H : List AO} {id : Nat} {fr : Fr} (x y : X), ev fr x = litI .i64 k → ev fr y = litS s → core cw0 (lookM mtl) mds H id (.build [litI .i64 0, litS (bs []), litI .i64 0] [(0, 1, x), (1, 1, y)]) fr = some (.val (tokA k s 0) none) := fun x y hx hy => core_buildK hx hy
  have key : ∃ H', cw0 41 [litI .i64 k, litS s] [] = some (.ret (litB (rightL k s)), H') := by
    refine cw0_ret fn41 (c := c41) rfl rfl rfl rfl ?_
    simp -implicitDefEqProofs only [c41, aW, ↓aP, makes, Nat.reduceLT, Nat.reduceEqDiff, Nat.reduceAdd, ↓reduceIte, Nat.reduceBEq, bk, rc]
    rfl
  obtain ⟨H', key⟩ := key
  exact callV_pure rfl rfl key rfl
def digN : List UInt8 → Nat → Bool
  | [], _ => true
  | c :: r, n => if 300 < (if c.toNat = 46 then 0 else n + 1) then false else digN r (if c.toNat = 46 then 0 else n + 1)
theorem num_loop {s : ByteArray} (hs : s.size ≤ 65536) : ∀ (r : List UInt8) (i n : Nat), s.data.toList.drop i = r → i ≤ s.size → n ≤ 300 →
    (digN r n = true ∧ ∃ x y, loopW (codeW cw0 (lookM mtl) mds c40l0) [0, 3, 4] [(0, litS s), (3, litI .i64 n), (4, litI .i64 i)] [] = some (.exit 0, [(0, litS s), (3, x), (4, y), (8, litB false)], [])) ∨
    (digN r n = false ∧ loopW (codeW cw0 (lookM mtl) mds c40l0) [0, 3, 4] [(0, litS s), (3, litI .i64 n), (4, litI .i64 i)] [] = some (.ret, [(2, litB false)], []))
  | [], i, n, hd, hi, hn => by
    have hl : s.data.toList.length = s.size := by simp
    have h : s.size ≤ i := by
      have := congrArg List.length hd
      rw [List.length_drop, List.length_nil] at this; omega
    left
    refine ⟨rfl, litI .i64 n, litI .i64 i, loopW_out ?_ (by simp)⟩
    simp -implicitDefEqProofs only [c40l0, aW, ↓aP, makes, Nat.reduceLT, Nat.reduceEqDiff, Nat.reduceAdd, ↓reduceIte, Nat.reduceBEq, lenS_str, show ¬ ((i : Int) < s.size) by omega]
  | c :: r, i, n, hd, hi, hn => by
    have hl : s.data.toList.length = s.size := by simp
    have hlt : i < s.size := by
      have := congrArg List.length hd
      rw [List.length_drop, List.length_cons] at this; omega
    have hg : s.data.toList[i]? = some c := by
      have := congrArg List.head? hd
      rwa [List.head?_drop] at this
    have hlti : (i : Int) < s.size := by omega
    have ix := idx_pk hlt (k := .i64)
    rw [pk_some hg] at ix
    have wi := wrap1 (n := i) (by omega)
    have wn := wrap1 (n := n) (by omega)
    rw [digN]
    by_cases h46 : c.toNat = 46
    · rw [if_pos h46, if_neg (by omega)]
      have e46 : (((c.toNat : Nat) : Int) == 46) = true := beq_iff_eq.2 (by omega)
      have step : codeW cw0 (lookM mtl) mds c40l0 (keep [0, 3, 4] [(0, litS s), (3, litI .i64 n), (4, litI .i64 i)]) [] = some (.normal, [(0, litS s), (3, litI .i64 ((0 : Nat) : Int)), (4, litI .i64 ((i + 1 : Nat) : Int))], []) := by
        simp -implicitDefEqProofs only [c40l0, aW, ↓aP, makes, Nat.reduceLT, Nat.reduceEqDiff, Nat.reduceAdd, ↓reduceIte, Nat.reduceBEq, lenS_str, hlti, ix, e46, wi, wn, show ¬ ((300 : Int) < 0) by omega]
        rfl
      rcases num_loop hs r (i + 1) 0 (by rw [← List.drop_drop, hd]; rfl) (by omega) (by omega) with ⟨h1, x, y, h⟩ | ⟨h1, h⟩
      · exact .inl ⟨h1, x, y, loopW_round step h⟩
      · exact .inr ⟨h1, loopW_round step h⟩
    · rw [if_neg h46]
      have e46 : (((c.toNat : Nat) : Int) == 46) = false := beq_eq_false_iff_ne.2 (by omega)
      by_cases hg3 : 300 < n + 1
      · rw [if_pos hg3]
        right
        refine ⟨rfl, loopW_out ?_ (by simp)⟩
        simp -implicitDefEqProofs only [c40l0, aW, ↓aP, makes, Nat.reduceLT, Nat.reduceEqDiff, Nat.reduceAdd, ↓reduceIte, Nat.reduceBEq, lenS_str, hlti, ix, e46, wi, wn, show (300 : Int) < ((n + 1 : Nat) : Int) by omega]
      · rw [if_neg hg3]
        have step : codeW cw0 (lookM mtl) mds c40l0 (keep [0, 3, 4] [(0, litS s), (3, litI .i64 n), (4, litI .i64 i)]) [] = some (.normal, [(0, litS s), (3, litI .i64 ((n + 1 : Nat) : Int)), (4, litI .i64 ((i + 1 : Nat) : Int))], []) := by
          simp -implicitDefEqProofs only [c40l0, aW, ↓aP, makes, Nat.reduceLT, Nat.reduceEqDiff, Nat.reduceAdd, ↓reduceIte, Nat.reduceBEq, lenS_str, hlti, ix, e46, wi, wn, show ¬ (300 : Int) < ((n + 1 : Nat) : Int) by omega]
        rcases num_loop hs r (i + 1) (n + 1) (by rw [← List.drop_drop, hd]; rfl) (by omega) (by omega) with ⟨h1, x, y, h⟩ | ⟨h1, h⟩
        · exact .inl ⟨h1, x, y, loopW_round step h⟩
        · exact .inr ⟨h1, loopW_round step h⟩
theorem num40_call (s : ByteArray) (hs : s.size ≤ 65536) (H : List AO) (id : Nat) : callV cw0 mds 40 [litS s] H id = some (.val (litB (digN s.data.toList 0 && rightL 3 s)) none) := by
  have tc := token41_call 3 s hs
  have L := num_loop hs s.data.toList 0 0 rfl (Nat.zero_le _) (Nat.zero_le _)
  rw [show ((0 : Nat) : Int) = 0 from rfl] at L
  have key : ∃ H', cw0 40 [litS s] [] = some (.ret (litB (digN s.data.toList 0 && rightL 3 s)), H') := by
    refine cw0_ret fn40 (c := c40) rfl rfl rfl rfl ?_
    rcases L with ⟨h1, x, y, L⟩ | ⟨h1, L⟩
    · rw [h1, Bool.true_and]
      simp -implicitDefEqProofs only [c40, aW, ↓aP, makes, Nat.reduceLT, Nat.reduceEqDiff, Nat.reduceAdd, ↓reduceIte, Nat.reduceBEq, L, tc]
      rfl
    · rw [h1, Bool.false_and]
      simp -implicitDefEqProofs only [c40, aW, ↓aP, makes, Nat.reduceLT, Nat.reduceEqDiff, Nat.reduceAdd, ↓reduceIte, Nat.reduceBEq, L]
      rfl
  obtain ⟨H', key⟩ := key
  exact callV_pure rfl rfl key rfl
theorem digN_app : ∀ (ds rest : List UInt8) (n : Nat), (∀ x ∈ ds, x.toNat ≠ 46) → n ≤ 300 → digN (ds ++ rest) n = (decide (n + ds.length ≤ 300) && digN rest (n + ds.length))
  | [], rest, n, h, hn => by
    rw [List.nil_append, List.length_nil, Nat.add_zero, decide_eq_true hn, Bool.true_and]
  | c :: r, rest, n, h, hn => by
    rw [List.cons_append, digN, if_neg (h c (List.mem_cons_self ..))]
    by_cases h3 : 300 < n + 1
    · rw [if_pos h3, decide_eq_false (by rw [List.length_cons]; omega), Bool.false_and]
    · rw [if_neg h3, digN_app r rest (n + 1) (fun x hx => h x (List.mem_cons_of_mem _ hx)) (by omega), List.length_cons, show n + 1 + r.length = n + (r.length + 1) by omega]
theorem digN_dot (r : List UInt8) (n : Nat) : digN (46 :: r) n = digN r 0 := by
  rw [digN, show (if UInt8.toNat 46 = 46 then 0 else n + 1) = 0 from if_pos rfl, if_neg (by omega)]
theorem ix_none : ∀ (ds : List UInt8), (∀ x ∈ ds, x.toNat ≠ 46) → Lib.indexByte ds 46 = -1
  | [], _ => rfl
  | c :: r, h => by
    unfold Lib.indexByte
    have hc : (c == 46) = false := beq_eq_false_iff_ne.2 fun e => h c (List.mem_cons_self ..) (by rw [e]; rfl)
    rw [hc, ix_none r fun x hx => h x (List.mem_cons_of_mem _ hx)]
    rfl
theorem ix_some : ∀ (ds rest : List UInt8), (∀ x ∈ ds, x.toNat ≠ 46) → Lib.indexByte (ds ++ 46 :: rest) 46 = ds.length
  | [], rest, _ => rfl
  | c :: r, rest, h => by
    rw [List.cons_append]
    unfold Lib.indexByte
    have hc : (c == 46) = false := beq_eq_false_iff_ne.2 fun e => h c (List.mem_cons_self ..) (by rw [e]; rfl)
    rw [hc, ix_some r rest fun x hx => h x (List.mem_cons_of_mem _ hx)]
    rw [if_neg (by decide), if_neg (by rw [beq_iff_eq]; omega), List.length_cons]
    omega
theorem while_all {b : List UInt8} {ks : List Int} : ∀ (n i j : Nat), i ≤ j → j < whileN b ks n i → ks.contains (kindK (pk b j)) = true
  | 0, i, j, h1, h2 => by rw [whileN] at h2; omega
  | n + 1, i, j, h1, h2 => by
    rw [whileN] at h2
    split at h2
    · rename_i h
      by_cases e : i = j
      · subst e; exact h.2
      · exact while_all n (i + 1) j (by omega) h2
    · omega
theorem digits_no_dot {b : List UInt8} {i e : Nat} (he : whileF b [4] i = e) (hle : e ≤ b.length) : ∀ x ∈ (b.drop i).take (e - i), x.toNat ≠ 46 := by
  intro x hx h46
  obtain ⟨j, hj⟩ := List.getElem?_of_mem hx
  rw [List.getElem?_take] at hj
  split at hj
  · rename_i hlt
    rw [List.getElem?_drop] at hj
    have := while_all (b := b) (ks := [4]) (b.length - i) i (i + j) (by omega) (by
      have : whileN b [4] (b.length - i) i = whileF b [4] i := rfl
      omega)
    rw [pk_some hj, h46] at this
    revert this; decide
  · cases hj
theorem num_shape {s : ByteArray} (h : rightL 3 s = true) : numF s.data.toList 0 = s.size ∧ 0 < s.size := by
  have hl : s.data.toList.length = s.size := by simp
  unfold rightL toksF at h
  split at h
  · rename_i t ht
    rw [Bool.and_eq_true] at h
    obtain ⟨h1, h2⟩ := h
    have hs : t.2.1.data.toList = s.data.toList := eq_of_beq h2
    have hk : t.1 = 3 := eq_of_beq h1
    have sle := skipF_le (b := s.data.toList) (i := 0) (Nat.zero_le _)
    generalize hi : skipF s.data.toList 0 = i at *
    have main : ∀ n, toksN s.data.toList n i = .ok [t] → numF s.data.toList 0 = s.size ∧ 0 < s.size := by
      intro n ht
      cases n with
      | zero => cases ht
      | succ n =>
        rw [toksN] at ht
        split at ht
        · rename_i hil
          cases hn : nextK s.data.toList i with
          | none => rw [hn] at ht; cases ht
          | some p =>
            obtain ⟨u, e⟩ := p
            rw [hn] at ht
            simp only at ht
            have hu : u = t := by
              cases hr : toksN s.data.toList n (skipF s.data.toList e) with
              | error q => rw [hr] at ht; cases ht
              | ok l =>
                rw [hr] at ht
                simp only [Except.ok.injEq, List.cons.injEq] at ht
                exact ht.1
            subst hu
            obtain ⟨tx, tp⟩ := nextK_text hn
            have le := nextK_le hil hn
            have sz := text_size (b := s.data.toList) (i := i) (e := e) (by omega) le.2
            rw [← tx] at sz
            have sz2 : u.2.1.size = s.size := by
              have := congrArg List.length hs
              simpa using this
            have hi0 : i = 0 := by omega
            have he : e = s.size := by omega
            subst hi0
            refine ⟨?_, by omega⟩
            unfold nextK nextF at hn
            split at hn
            · simp only [Option.map_some, Option.some.injEq, Prod.mk.injEq] at hn
              obtain ⟨rfl, _⟩ := hn
              simp only at hk
              split at hk <;> omega
            · split at hn
              · simp only [Option.map_some, Option.some.injEq, Prod.mk.injEq] at hn
                obtain ⟨rfl, _⟩ := hn
                simp only at hk
                split at hk <;> omega
              · split at hn
                · simp only [Option.map_some, Option.some.injEq, Prod.mk.injEq] at hn
                  obtain ⟨_, rfl⟩ := hn
                  exact he
                · split at hn
                  · rw [Option.map_map, Option.map_eq_some_iff] at hn
                    obtain ⟨e', _, h'⟩ := hn
                    simp only [Function.comp, Prod.mk.injEq] at h'
                    obtain ⟨rfl, _⟩ := h'
                    simp only at hk
                    split at hk <;> omega
                  · cases hn
        · cases ht
    exact main _ ht
  · cases h
theorem num_eq (s : ByteArray) : (digN s.data.toList 0 && rightL 3 s) = numL s := by
  unfold numL
  cases hr : rightL 3 s with
  | false => rw [Bool.and_false, Bool.and_false]
  | true =>
    rw [Bool.and_true, Bool.and_true]
    have hl : s.data.toList.length = s.size := by simp
    obtain ⟨h1, h0⟩ := num_shape hr
    unfold headS' tailS' dotF
    unfold numF at h1
    simp only at h1
    have wle := whileF_le s.data.toList [4] 0 (by omega)
    have nd := digits_no_dot (b := s.data.toList) (i := 0) rfl wle.1
    rw [List.drop_zero, Nat.sub_zero] at nd
    generalize hb : s.data.toList = b at *
    generalize he : whileF b [4] 0 = e at *
    by_cases hc : pk b e = 46 ∧ kindK (pk b (e + 1)) = 4
    · rw [if_pos hc] at h1
      have hlt : e < b.length := pk_in (by omega)
      have nd2 := digits_no_dot (b := b) (i := e + 1) rfl (by rw [h1]; omega)
      rw [h1] at nd2
      have hg : b[e] = 46 := by
        have := pk_some (List.getElem?_eq_getElem hlt)
        rw [this] at hc
        exact UInt8.toNat_inj.1 hc.1
      have split : b = b.take e ++ 46 :: b.drop (e + 1) := by
        conv => lhs; rw [← List.take_append_drop e b, List.drop_eq_getElem_cons hlt, hg]
      have nd3 : ∀ x ∈ b.drop (e + 1), x.toNat ≠ 46 := by
        intro x hx
        refine nd2 x ?_
        rw [List.take_of_length_le (by rw [List.length_drop]; omega)]
        exact hx
      have te : (b.take e).length = e := by rw [List.length_take]; omega
      have ix : Lib.indexByte b 46 = (e : Int) := by
        rw [split, ix_some _ _ nd, te]
      rw [ix, if_pos (by omega), if_pos (by omega)]
      have d1 : digN b 0 = (decide (e ≤ 300) && decide (b.length - (e + 1) ≤ 300)) := by
        conv => lhs; rw [split]
        rw [digN_app _ _ 0 nd (by omega), te, Nat.zero_add, digN_dot]
        have := digN_app (b.drop (e + 1)) [] 0 nd3 (by omega)
        rw [List.append_nil] at this
        rw [this, List.length_drop, Nat.zero_add]
        show _ = _
        rw [show digN [] (b.length - (e + 1)) = true from rfl, Bool.and_true]
      rw [d1, Int.toNat_natCast, ByteArray.size_extract, ByteArray.size_extract]
      rw [← Bool.decide_and]
      exact decide_eq_decide.2 (by omega)
    · rw [if_neg hc] at h1
      have tk : b.take e = b := List.take_of_length_le (by omega)
      rw [tk] at nd
      rw [ix_none b nd, if_neg (by omega), if_neg (by omega)]
      have := digN_app b [] 0 nd (by omega)
      rw [List.append_nil, Nat.zero_add] at this
      rw [this, show digN [] b.length = true from rfl, Bool.and_true]
      exact decide_eq_decide.2 (by
        have : (bs []).size = 0 := rfl
        omega)
theorem num40 (s : ByteArray) (hs : s.size ≤ 65536) (H : List AO) (id : Nat) : callV cw0 mds 40 [litS s] H id = some (.val (litB (numL s)) none) := by
  rw [← num_eq]; exact num40_call s hs H id
end Go.Proofs.Ytkogkfpiijmbgaa.Ai
namespace Go.Proofs.Ytkogkfpiijmbgaa.Ai
open Go Go.Ai
def unL : List ByteArray := [bs [45], bs [110, 111, 116], bs [112, 114, 101], bs [102, 108, 111, 111, 114], bs [114, 97, 116]]
def biL : List ByteArray := [bs [43], bs [45], bs [42], bs [47], bs [100, 105, 118], bs [109, 111, 100], bs [60], bs [60, 61], bs [62], bs [62, 61], bs [61, 61], bs [33, 61], bs [97, 110, 100], bs [111, 114], bs [102, 98, 121], bs [45, 62]]
def ownB (k : Int) (n : ByteArray) (len : Nat) : Bool :=
  if k = 1 then (len == 0) && (isS n [116, 114, 117, 101] || isS n [102, 97, 108, 115, 101])
  else if k = 2 then (len == 0) && numL n
  else if k = 3 then (len == 0) && rightL 2 n
  else if k = 4 ∨ k = 5 then (len == 0) && rightL 1 n
  else if k = 6 then (len == 1) && unL.any (sEq n)
  else if k = 7 then (len == 2) && biL.any (sEq n)
  else if k = 9 then rightL 1 n
  else if k = 8 then isS n [] && (len == 3)
  else if k = 10 then isS n [] && (len == 1)
  else if k = 11 then isS n [] && decide (2 ≤ len)
  else false
theorem bu {H : List AO} {id : Nat} {fr : Fr} : core cw0 (lookM mtl) mds H id (.bslice false 1 5 [litS (bs [])] [(0, .k (litS (bs [45]))), (1, .k (litS (bs [110, 111, 116]))), (2, .k (litS (bs [112, 114, 101]))), (3, .k (litS (bs [102, 108, 111, 111, 114]))), (4, .k (litS (bs [114, 97, 116])))] 9) fr = some (.val (rowS (some 5) unL) none) := by kernel_rfl
theorem bb {H : List AO} {id : Nat} {fr : Fr} : core cw0 (lookM mtl) mds H id (.bslice false 1 16 [litS (bs [])] [(0, .k (litS (bs [43]))), (1, .k (litS (bs [45]))), (2, .k (litS (bs [42]))), (3, .k (litS (bs [47]))), (4, .k (litS (bs [100, 105, 118]))), (5, .k (litS (bs [109, 111, 100]))), (6, .k (litS (bs [60]))), (7, .k (litS (bs [60, 61]))), (8, .k (litS (bs [62]))), (9, .k (litS (bs [62, 61]))), (10, .k (litS (bs [61, 61]))), (11, .k (litS (bs [33, 61]))), (12, .k (litS (bs [97, 110, 100]))), (13, .k (litS (bs [111, 114]))), (14, .k (litS (bs [102, 98, 121]))), (15, .k (litS (bs [45, 62])))] 9) fr = some (.val (rowS (some 16) biL) none) := by kernel_rfl
theorem core_lkp {H : List AO} {id : Nat} {fr : Fr} (kk : KK) (ok : Bool) (z : AV) (m x : X) : core cw0 (lookM mtl) mds H id (.lkp kk ok z m x) fr = valO (lkpV H kk ok z (ev fr m) (ev fr x)) := rfl
theorem core_mup {H : List AO} {id : Nat} {fr : Fr} (kk : KK) (m k x : X) : core cw0 (lookM mtl) mds H id (.mup kk m k x) fr = wrO .any (mupH H kk (ev fr m) (ev fr k) (ev fr x)) := rfl
def mp26 : AO := .mp [(.int .i64 8, litI .i64 3), (.int .i64 10, litI .i64 1), (.int .i64 11, litI .i64 2)]
theorem mu1 (o : AO) : mupH [o, .mp []] (.int .i64) (.mpv 1) (litI .i64 8) (litI .i64 3) = some [o, .mp [(.int .i64 8, litI .i64 3)]] := rfl
theorem mu2 (o : AO) : mupH [o, .mp [(.int .i64 8, litI .i64 3)]] (.int .i64) (.mpv 1) (litI .i64 10) (litI .i64 1) = some [o, .mp [(.int .i64 8, litI .i64 3), (.int .i64 10, litI .i64 1)]] := rfl
theorem mu3 (o : AO) : mupH [o, .mp [(.int .i64 8, litI .i64 3), (.int .i64 10, litI .i64 1)]] (.int .i64) (.mpv 1) (litI .i64 11) (litI .i64 2) = some [o, mp26] := rfl
theorem sameK_int (a b : Int) : sameK (.int .i64) (.int .i64 a) (.int .i64 b) = some (a == b) := by
  simp [sameK]
theorem lk26 (o : AO) (k : Int) : lkpV [o, mp26] (.int .i64) false (litI .i64 0) (.mpv 1) (litI .i64 k) = some (litI .i64 (if k = 8 then 3 else if k = 10 then 1 else if k = 11 then 2 else 0)) := by
  show ((findK (.int .i64) (.int .i64 k) [(.int .i64 8, litI .i64 3), (.int .i64 10, litI .i64 1), (.int .i64 11, litI .i64 2)] 0).bind _) = _
  unfold findK findK findK findK
  simp only [sameK_int]
  by_cases h8 : k = 8
  · subst h8; rfl
  · rw [beq_eq_false_iff_ne.2 h8, if_neg h8]
    by_cases h10 : k = 10
    · subst h10; rfl
    · rw [beq_eq_false_iff_ne.2 h10, if_neg h10]
      by_cases h11 : k = 11
      · subst h11; rfl
      · rw [beq_eq_false_iff_ne.2 h11, if_neg h11]; rfl
set_option maxHeartbeats 4000000 in
theorem own_tells (t : Tr) (S : Sm t) : ∃ H', cw0 26 [.agg t.cells] [] = some (.ret (litB (ownB t.k t.n t.ts.length)), H') := by
  refine cw0_ret fn26 (c := c26) rfl rfl rfl rfl ?_
  have h0 := ld0 (H := [rowT t]) (r := 0) (t := t) rfl
  have h1 := ld1 (H := [rowT t]) (r := 0) (t := t) rfl
  have h2 := ld2 (H := [rowT t]) (r := 0) (t := t) rfl
  have hn : t.n.size ≤ 65536 := by have := S.name; omega
  have nc := num_call t.n hn
  have cc := ctor_call t.n hn
  have mc := name_call t.n hn
  have uc := cont37_call (some 5) unL t.n (by decide)
  have bc := cont37_call (some 16) biL t.n (by decide)
  have len : ∀ m : Nat, ((t.ts.length : Int) == (m : Int)) = (t.ts.length == m) := fun m => by
    by_cases h : t.ts.length = m
    · rw [beq_iff_eq.2 h]; exact beq_iff_eq.2 (by omega)
    · rw [beq_eq_false_iff_ne.2 h]; exact beq_eq_false_iff_ne.2 (by omega)
  have n0 := len 0
  have n1 := len 1
  have n2 := len 2
  have n3 := len 3
  simp only [show ((0 : Nat) : Int) = 0 from rfl, show ((1 : Nat) : Int) = 1 from rfl, show ((2 : Nat) : Int) = 2 from rfl, show ((3 : Nat) : Int) = 3 from rfl] at n0 n1 n2 n3
  unfold ownB
  by_cases k1 : t.k = 1
  · rw [if_pos k1]
    cases hz : (t.ts.length == 0) with
    | true =>
      rw [Bool.true_and]
      rw [hz] at n0
      cases ht : isS t.n [116, 114, 117, 101] with
      | true =>
        simp -implicitDefEqProofs only [c26, aW, ↓aP, makes, Nat.reduceLT, Nat.reduceEqDiff, Nat.reduceAdd, ↓reduceIte, Nat.reduceBEq, core_box, box_tr, List.length_nil, List.length_cons, fadr_ptr, h0, h1, h2, ↓bu, ↓bb, lenV_args, Int.reduceBEq, bin_eqlS, isS_eq, k1, n0, ht]
        rfl
      | false =>
        simp -implicitDefEqProofs only [c26, aW, ↓aP, makes, Nat.reduceLT, Nat.reduceEqDiff, Nat.reduceAdd, ↓reduceIte, Nat.reduceBEq, core_box, box_tr, List.length_nil, List.length_cons, fadr_ptr, h0, h1, h2, ↓bu, ↓bb, lenV_args, Int.reduceBEq, bin_eqlS, isS_eq, k1, n0, ht]
        rfl
    | false =>
      rw [Bool.false_and]
      rw [hz] at n0
      simp -implicitDefEqProofs only [c26, aW, ↓aP, makes, Nat.reduceLT, Nat.reduceEqDiff, Nat.reduceAdd, ↓reduceIte, Nat.reduceBEq, core_box, box_tr, List.length_nil, List.length_cons, fadr_ptr, h0, h1, h2, ↓bu, ↓bb, lenV_args, Int.reduceBEq, bin_eqlS, isS_eq, k1, n0]
      rfl
  rw [if_neg k1]
  by_cases k2 : t.k = 2
  · rw [if_pos k2]
    cases hz : (t.ts.length == 0) with
    | true =>
      rw [Bool.true_and]
      rw [hz] at n0
      simp -implicitDefEqProofs only [c26, aW, ↓aP, makes, Nat.reduceLT, Nat.reduceEqDiff, Nat.reduceAdd, ↓reduceIte, Nat.reduceBEq, core_box, box_tr, List.length_nil, List.length_cons, fadr_ptr, h0, h1, h2, ↓bu, ↓bb, lenV_args, Int.reduceBEq, bin_eqlS, isS_eq, k2, n0, nc]
      rfl
    | false =>
      rw [Bool.false_and]
      rw [hz] at n0
      simp -implicitDefEqProofs only [c26, aW, ↓aP, makes, Nat.reduceLT, Nat.reduceEqDiff, Nat.reduceAdd, ↓reduceIte, Nat.reduceBEq, core_box, box_tr, List.length_nil, List.length_cons, fadr_ptr, h0, h1, h2, ↓bu, ↓bb, lenV_args, Int.reduceBEq, bin_eqlS, isS_eq, k2, n0]
      rfl
  rw [if_neg k2]
  by_cases k3 : t.k = 3
  · rw [if_pos k3]
    cases hz : (t.ts.length == 0) with
    | true =>
      rw [Bool.true_and]
      rw [hz] at n0
      simp -implicitDefEqProofs only [c26, aW, ↓aP, makes, Nat.reduceLT, Nat.reduceEqDiff, Nat.reduceAdd, ↓reduceIte, Nat.reduceBEq, core_box, box_tr, List.length_nil, List.length_cons, fadr_ptr, h0, h1, h2, ↓bu, ↓bb, lenV_args, Int.reduceBEq, bin_eqlS, isS_eq, k3, n0, cc]
      rfl
    | false =>
      rw [Bool.false_and]
      rw [hz] at n0
      simp -implicitDefEqProofs only [c26, aW, ↓aP, makes, Nat.reduceLT, Nat.reduceEqDiff, Nat.reduceAdd, ↓reduceIte, Nat.reduceBEq, core_box, box_tr, List.length_nil, List.length_cons, fadr_ptr, h0, h1, h2, ↓bu, ↓bb, lenV_args, Int.reduceBEq, bin_eqlS, isS_eq, k3, n0]
      rfl
  rw [if_neg k3]
  by_cases k45 : t.k = 4 ∨ t.k = 5
  · rw [if_pos k45]
    rcases k45 with k4 | k5
    · cases hz : (t.ts.length == 0) with
      | true =>
        rw [Bool.true_and]
        rw [hz] at n0
        simp -implicitDefEqProofs only [c26, aW, ↓aP, makes, Nat.reduceLT, Nat.reduceEqDiff, Nat.reduceAdd, ↓reduceIte, Nat.reduceBEq, core_box, box_tr, List.length_nil, List.length_cons, fadr_ptr, h0, h1, h2, ↓bu, ↓bb, lenV_args, Int.reduceBEq, bin_eqlS, isS_eq, k4, n0, mc]
        rfl
      | false =>
        rw [Bool.false_and]
        rw [hz] at n0
        simp -implicitDefEqProofs only [c26, aW, ↓aP, makes, Nat.reduceLT, Nat.reduceEqDiff, Nat.reduceAdd, ↓reduceIte, Nat.reduceBEq, core_box, box_tr, List.length_nil, List.length_cons, fadr_ptr, h0, h1, h2, ↓bu, ↓bb, lenV_args, Int.reduceBEq, bin_eqlS, isS_eq, k4, n0]
        rfl
    · cases hz : (t.ts.length == 0) with
      | true =>
        rw [Bool.true_and]
        rw [hz] at n0
        simp -implicitDefEqProofs only [c26, aW, ↓aP, makes, Nat.reduceLT, Nat.reduceEqDiff, Nat.reduceAdd, ↓reduceIte, Nat.reduceBEq, core_box, box_tr, List.length_nil, List.length_cons, fadr_ptr, h0, h1, h2, ↓bu, ↓bb, lenV_args, Int.reduceBEq, bin_eqlS, isS_eq, k5, n0, mc]
        rfl
      | false =>
        rw [Bool.false_and]
        rw [hz] at n0
        simp -implicitDefEqProofs only [c26, aW, ↓aP, makes, Nat.reduceLT, Nat.reduceEqDiff, Nat.reduceAdd, ↓reduceIte, Nat.reduceBEq, core_box, box_tr, List.length_nil, List.length_cons, fadr_ptr, h0, h1, h2, ↓bu, ↓bb, lenV_args, Int.reduceBEq, bin_eqlS, isS_eq, k5, n0]
        rfl
  rw [if_neg k45]
  by_cases k6 : t.k = 6
  · rw [if_pos k6]
    cases hz : (t.ts.length == 1) with
    | true =>
      rw [Bool.true_and]
      rw [hz] at n1
      simp -implicitDefEqProofs only [c26, aW, ↓aP, makes, Nat.reduceLT, Nat.reduceEqDiff, Nat.reduceAdd, ↓reduceIte, Nat.reduceBEq, core_box, box_tr, List.length_nil, List.length_cons, fadr_ptr, h0, h1, h2, ↓bu, ↓bb, lenV_args, Int.reduceBEq, bin_eqlS, isS_eq, k6, n1, uc]
      rfl
    | false =>
      rw [Bool.false_and]
      rw [hz] at n1
      simp -implicitDefEqProofs only [c26, aW, ↓aP, makes, Nat.reduceLT, Nat.reduceEqDiff, Nat.reduceAdd, ↓reduceIte, Nat.reduceBEq, core_box, box_tr, List.length_nil, List.length_cons, fadr_ptr, h0, h1, h2, ↓bu, ↓bb, lenV_args, Int.reduceBEq, bin_eqlS, isS_eq, k6, n1]
      rfl
  rw [if_neg k6]
  by_cases k7 : t.k = 7
  · rw [if_pos k7]
    cases hz : (t.ts.length == 2) with
    | true =>
      rw [Bool.true_and]
      rw [hz] at n2
      simp -implicitDefEqProofs only [c26, aW, ↓aP, makes, Nat.reduceLT, Nat.reduceEqDiff, Nat.reduceAdd, ↓reduceIte, Nat.reduceBEq, core_box, box_tr, List.length_nil, List.length_cons, fadr_ptr, h0, h1, h2, ↓bu, ↓bb, lenV_args, Int.reduceBEq, bin_eqlS, isS_eq, k7, n2, bc]
      rfl
    | false =>
      rw [Bool.false_and]
      rw [hz] at n2
      simp -implicitDefEqProofs only [c26, aW, ↓aP, makes, Nat.reduceLT, Nat.reduceEqDiff, Nat.reduceAdd, ↓reduceIte, Nat.reduceBEq, core_box, box_tr, List.length_nil, List.length_cons, fadr_ptr, h0, h1, h2, ↓bu, ↓bb, lenV_args, Int.reduceBEq, bin_eqlS, isS_eq, k7, n2]
      rfl
  rw [if_neg k7]
  by_cases k9 : t.k = 9
  · rw [if_pos k9]
    simp -implicitDefEqProofs only [c26, aW, ↓aP, makes, Nat.reduceLT, Nat.reduceEqDiff, Nat.reduceAdd, ↓reduceIte, Nat.reduceBEq, core_box, box_tr, List.length_nil, List.length_cons, fadr_ptr, h0, h1, h2, ↓bu, ↓bb, lenV_args, Int.reduceBEq, bin_eqlS, isS_eq, k9, mc]
    rfl
  rw [if_neg k9]
  by_cases k8 : t.k = 8
  · rw [if_pos k8]
    have q0 := ld0 (H := [rowT t, mp26]) (r := 0) (t := t) rfl
    have q1 := ld1 (H := [rowT t, mp26]) (r := 0) (t := t) rfl
    cases he : isS t.n [] with
    | true =>
      rw [Bool.true_and]
      cases hz : (t.ts.length == 3) with
      | true =>
        rw [hz] at n3
        simp -implicitDefEqProofs only [c26, aW, ↓aP, makes, Nat.reduceLT, Nat.reduceEqDiff, Nat.reduceAdd, ↓reduceIte, Nat.reduceBEq, core_box, box_tr, List.length_nil, List.length_cons, fadr_ptr, h0, h1, h2, ↓bu, ↓bb, lenV_args, Int.reduceBEq, bin_eqlS, isS_eq, k8, core_mkmV, List.length_cons, List.length_nil, core_mup, mu1, mu2, mu3, core_lkp, q0, lk26, q1, he, n3, Int.reduceLT, Int.reduceEq, decide_true, decide_false]
        rfl
      | false =>
        rw [hz] at n3
        cases hg : decide ((3 : Int) < t.ts.length) with
        | true =>
          simp -implicitDefEqProofs only [c26, aW, ↓aP, makes, Nat.reduceLT, Nat.reduceEqDiff, Nat.reduceAdd, ↓reduceIte, Nat.reduceBEq, core_box, box_tr, List.length_nil, List.length_cons, fadr_ptr, h0, h1, h2, ↓bu, ↓bb, lenV_args, Int.reduceBEq, bin_eqlS, isS_eq, k8, core_mkmV, List.length_cons, List.length_nil, core_mup, mu1, mu2, mu3, core_lkp, q0, lk26, q1, he, n3, hg, Int.reduceLT, Int.reduceEq, decide_true, decide_false]
          rfl
        | false =>
          simp -implicitDefEqProofs only [c26, aW, ↓aP, makes, Nat.reduceLT, Nat.reduceEqDiff, Nat.reduceAdd, ↓reduceIte, Nat.reduceBEq, core_box, box_tr, List.length_nil, List.length_cons, fadr_ptr, h0, h1, h2, ↓bu, ↓bb, lenV_args, Int.reduceBEq, bin_eqlS, isS_eq, k8, core_mkmV, List.length_cons, List.length_nil, core_mup, mu1, mu2, mu3, core_lkp, q0, lk26, q1, he, n3, hg, Int.reduceLT, Int.reduceEq, decide_true, decide_false]
          rfl
    | false =>
      rw [Bool.false_and]
      simp -implicitDefEqProofs only [c26, aW, ↓aP, makes, Nat.reduceLT, Nat.reduceEqDiff, Nat.reduceAdd, ↓reduceIte, Nat.reduceBEq, core_box, box_tr, List.length_nil, List.length_cons, fadr_ptr, h0, h1, h2, ↓bu, ↓bb, lenV_args, Int.reduceBEq, bin_eqlS, isS_eq, k8, core_mkmV, List.length_cons, List.length_nil, core_mup, mu1, mu2, mu3, core_lkp, q0, lk26, q1, he, Int.reduceLT, Int.reduceEq, decide_true, decide_false]
      rfl
  rw [if_neg k8]
  by_cases k10 : t.k = 10
  · rw [if_pos k10]
    have q0 := ld0 (H := [rowT t, mp26]) (r := 0) (t := t) rfl
    have q1 := ld1 (H := [rowT t, mp26]) (r := 0) (t := t) rfl
    cases he : isS t.n [] with
    | true =>
      rw [Bool.true_and]
      cases hz : (t.ts.length == 1) with
      | true =>
        rw [hz] at n1
        simp -implicitDefEqProofs only [c26, aW, ↓aP, makes, Nat.reduceLT, Nat.reduceEqDiff, Nat.reduceAdd, ↓reduceIte, Nat.reduceBEq, core_box, box_tr, List.length_nil, List.length_cons, fadr_ptr, h0, h1, h2, ↓bu, ↓bb, lenV_args, Int.reduceBEq, bin_eqlS, isS_eq, k10, core_mkmV, List.length_cons, List.length_nil, core_mup, mu1, mu2, mu3, core_lkp, q0, lk26, q1, he, n1, Int.reduceLT, Int.reduceEq, decide_true, decide_false]
        rfl
      | false =>
        rw [hz] at n1
        cases hg : decide ((1 : Int) < t.ts.length) with
        | true =>
          simp -implicitDefEqProofs only [c26, aW, ↓aP, makes, Nat.reduceLT, Nat.reduceEqDiff, Nat.reduceAdd, ↓reduceIte, Nat.reduceBEq, core_box, box_tr, List.length_nil, List.length_cons, fadr_ptr, h0, h1, h2, ↓bu, ↓bb, lenV_args, Int.reduceBEq, bin_eqlS, isS_eq, k10, core_mkmV, List.length_cons, List.length_nil, core_mup, mu1, mu2, mu3, core_lkp, q0, lk26, q1, he, n1, hg, Int.reduceLT, Int.reduceEq, decide_true, decide_false]
          rfl
        | false =>
          simp -implicitDefEqProofs only [c26, aW, ↓aP, makes, Nat.reduceLT, Nat.reduceEqDiff, Nat.reduceAdd, ↓reduceIte, Nat.reduceBEq, core_box, box_tr, List.length_nil, List.length_cons, fadr_ptr, h0, h1, h2, ↓bu, ↓bb, lenV_args, Int.reduceBEq, bin_eqlS, isS_eq, k10, core_mkmV, List.length_cons, List.length_nil, core_mup, mu1, mu2, mu3, core_lkp, q0, lk26, q1, he, n1, hg, Int.reduceLT, Int.reduceEq, decide_true, decide_false]
          rfl
    | false =>
      rw [Bool.false_and]
      simp -implicitDefEqProofs only [c26, aW, ↓aP, makes, Nat.reduceLT, Nat.reduceEqDiff, Nat.reduceAdd, ↓reduceIte, Nat.reduceBEq, core_box, box_tr, List.length_nil, List.length_cons, fadr_ptr, h0, h1, h2, ↓bu, ↓bb, lenV_args, Int.reduceBEq, bin_eqlS, isS_eq, k10, core_mkmV, List.length_cons, List.length_nil, core_mup, mu1, mu2, mu3, core_lkp, q0, lk26, q1, he, Int.reduceLT, Int.reduceEq, decide_true, decide_false]
      rfl
  rw [if_neg k10]
  by_cases k11 : t.k = 11
  · rw [if_pos k11]
    have q0 := ld0 (H := [rowT t, mp26]) (r := 0) (t := t) rfl
    have q1 := ld1 (H := [rowT t, mp26]) (r := 0) (t := t) rfl
    cases he : isS t.n [] with
    | true =>
      rw [Bool.true_and]
      cases hz : (t.ts.length == 2) with
      | true =>
        rw [hz] at n2
        rw [decide_eq_true (show 2 ≤ t.ts.length by rw [beq_iff_eq] at hz; omega)]
        simp -implicitDefEqProofs only [c26, aW, ↓aP, makes, Nat.reduceLT, Nat.reduceEqDiff, Nat.reduceAdd, ↓reduceIte, Nat.reduceBEq, core_box, box_tr, List.length_nil, List.length_cons, fadr_ptr, h0, h1, h2, ↓bu, ↓bb, lenV_args, Int.reduceBEq, bin_eqlS, isS_eq, k11, core_mkmV, List.length_cons, List.length_nil, core_mup, mu1, mu2, mu3, core_lkp, q0, lk26, q1, he, n2, Int.reduceLT, Int.reduceEq, decide_true, decide_false]
        rfl
      | false =>
        rw [hz] at n2
        have hg : decide ((2 : Int) < t.ts.length) = decide (2 ≤ t.ts.length) := decide_eq_decide.2 (by rw [beq_eq_false_iff_ne] at hz; omega)
        cases hd : decide (2 ≤ t.ts.length) with
        | true =>
          rw [hd] at hg
          simp -implicitDefEqProofs only [c26, aW, ↓aP, makes, Nat.reduceLT, Nat.reduceEqDiff, Nat.reduceAdd, ↓reduceIte, Nat.reduceBEq, core_box, box_tr, List.length_nil, List.length_cons, fadr_ptr, h0, h1, h2, ↓bu, ↓bb, lenV_args, Int.reduceBEq, bin_eqlS, isS_eq, k11, core_mkmV, List.length_cons, List.length_nil, core_mup, mu1, mu2, mu3, core_lkp, q0, lk26, q1, he, n2, hg, Int.reduceLT, Int.reduceEq, decide_true, decide_false]
          rfl
        | false =>
          rw [hd] at hg
          simp -implicitDefEqProofs only [c26, aW, ↓aP, makes, Nat.reduceLT, Nat.reduceEqDiff, Nat.reduceAdd, ↓reduceIte, Nat.reduceBEq, core_box, box_tr, List.length_nil, List.length_cons, fadr_ptr, h0, h1, h2, ↓bu, ↓bb, lenV_args, Int.reduceBEq, bin_eqlS, isS_eq, k11, core_mkmV, List.length_cons, List.length_nil, core_mup, mu1, mu2, mu3, core_lkp, q0, lk26, q1, he, n2, hg, Int.reduceLT, Int.reduceEq, decide_true, decide_false]
          rfl
    | false =>
      rw [Bool.false_and]
      simp -implicitDefEqProofs only [c26, aW, ↓aP, makes, Nat.reduceLT, Nat.reduceEqDiff, Nat.reduceAdd, ↓reduceIte, Nat.reduceBEq, core_box, box_tr, List.length_nil, List.length_cons, fadr_ptr, h0, h1, h2, ↓bu, ↓bb, lenV_args, Int.reduceBEq, bin_eqlS, isS_eq, k11, core_mkmV, List.length_cons, List.length_nil, core_mup, mu1, mu2, mu3, core_lkp, q0, lk26, q1, he, Int.reduceLT, Int.reduceEq, decide_true, decide_false]
      rfl
  rw [if_neg k11]
  have q0 := ld0 (H := [rowT t, mp26]) (r := 0) (t := t) rfl
  have e1 : (t.k == 1) = false := beq_eq_false_iff_ne.2 k1
  have e2 : (t.k == 2) = false := beq_eq_false_iff_ne.2 k2
  have e3 : (t.k == 3) = false := beq_eq_false_iff_ne.2 k3
  have e6 : (t.k == 6) = false := beq_eq_false_iff_ne.2 k6
  have e7 : (t.k == 7) = false := beq_eq_false_iff_ne.2 k7
  have e8 : (t.k == 8) = false := beq_eq_false_iff_ne.2 k8
  have e9 : (t.k == 9) = false := beq_eq_false_iff_ne.2 k9
  have e10 : (t.k == 10) = false := beq_eq_false_iff_ne.2 k10
  have e11 : (t.k == 11) = false := beq_eq_false_iff_ne.2 k11
  have e4 : (t.k == 4) = false := beq_eq_false_iff_ne.2 fun h => k45 (.inl h)
  have e5 : (t.k == 5) = false := beq_eq_false_iff_ne.2 fun h => k45 (.inr h)
  simp -implicitDefEqProofs only [c26, aW, ↓aP, makes, Nat.reduceLT, Nat.reduceEqDiff, Nat.reduceAdd, ↓reduceIte, Nat.reduceBEq, core_box, box_tr, List.length_nil, List.length_cons, fadr_ptr, h0, h1, h2, ↓bu, ↓bb, lenV_args, Int.reduceBEq, bin_eqlS, isS_eq, e1, e2, e3, e4, e5, e6, e7, e8, e9, e10, e11, core_mkmV, List.length_cons, List.length_nil, core_mup, mu1, mu2, mu3, core_lkp, q0, lk26, k8, k10, k11, Int.reduceLT]
  rfl
theorem own_call (t : Tr) (S : Sm t) (H : List AO) (id : Nat) : callV cw0 mds 26 [.agg t.cells] H id = some (.val (litB (ownB t.k t.n t.ts.length)) none) := by
  obtain ⟨H', key⟩ := own_tells t S
  exact callV_pureA rfl (by rw [List.all_cons, whole_cells]; rfl) key rfl
end Go.Proofs.Ytkogkfpiijmbgaa.Ai
namespace Go.Proofs.Ytkogkfpiijmbgaa.Ai
open Go Go.Ai
theorem index52_loop (z : Nat) (c : Option Nat) (ts : List Tr) (fv : AV) (p : Tr → Bool) (hp : ∀ a ∈ ts, ∀ H id, fnV cw0 mds fv [.agg a.cells] H id = some (.val (litB (p a)) none)) (hl : ts.length ≤ 1000) : ∀ (r : List Tr) (n : Nat), ts.drop n = r → n ≤ ts.length →
    (findF p n r = -1 ∧ ∃ i', loopW (codeW cw0 (lookM mtl) mds c52l0) [0, 1, 7, 8] [(0, argsA z c ts), (1, fv), (7, litI .i64 ts.length), (8, litI .i64 n)] [] = some (.exit 0, [(0, argsA z c ts), (1, fv), (7, litI .i64 ts.length), (8, i'), (9, litB false)], [])) ∨
    loopW (codeW cw0 (lookM mtl) mds c52l0) [0, 1, 7, 8] [(0, argsA z c ts), (1, fv), (7, litI .i64 ts.length), (8, litI .i64 n)] [] = some (.ret, [(4, litI .i64 (findF p n r))], [])
  | [], n, hd, hn => by
    have h : ts.length ≤ n := by
      have := congrArg List.length hd
      rw [List.length_drop, List.length_nil] at this; omega
    left
    refine ⟨rfl, litI .i64 n, ?_⟩
    refine loopW_out ?_ (by simp)
    simp -implicitDefEqProofs only [c52l0, aW, ↓aP, makes, Nat.reduceLT, Nat.reduceEqDiff, Nat.reduceAdd, ↓reduceIte, Nat.reduceBEq, show ¬ ((n : Int) < ts.length) by omega]
  | x :: r, n, hd, hn => by
    have hlt : n < ts.length := by
      have := congrArg List.length hd
      rw [List.length_drop, List.length_cons] at this; omega
    have hg : ts[n]? = some x := by
      have := congrArg List.head? hd
      rwa [List.head?_drop] at this
    have hlti : (n : Int) < ts.length := by omega
    have hc := hp x (List.mem_of_getElem? hg)
    rw [findF]
    cases hx : p x with
    | true =>
      right
      rw [cond_true]
      rw [hx] at hc
      refine loopW_out ?_ (by simp)
      simp -implicitDefEqProofs only [c52l0, aW, ↓aP, makes, Nat.reduceLT, Nat.reduceEqDiff, Nat.reduceAdd, ↓reduceIte, Nat.reduceBEq, hlti, iadr_args hg, ldE, core_callS, hc]
    | false =>
      rw [cond_false]
      rw [hx] at hc
      have step : codeW cw0 (lookM mtl) mds c52l0 (keep [0, 1, 7, 8] [(0, argsA z c ts), (1, fv), (7, litI .i64 ts.length), (8, litI .i64 n)]) [] = some (.normal, [(0, argsA z c ts), (1, fv), (7, litI .i64 ts.length), (8, litI .i64 ((n + 1 : Nat) : Int))], []) := by
        simp -implicitDefEqProofs only [c52l0, aW, ↓aP, makes, Nat.reduceLT, Nat.reduceEqDiff, Nat.reduceAdd, ↓reduceIte, Nat.reduceBEq, hlti, iadr_args hg, ldE, core_callS, hc, wrap1 (show n < 4611686018427387904 by omega)]
      rcases index52_loop z c ts fv p hp hl r (n + 1) (by rw [← List.drop_drop, hd]; rfl) (by omega) with ⟨h1, i', h⟩ | h
      · exact .inl ⟨h1, i', loopW_round step h⟩
      · exact .inr (loopW_round step h)
theorem index52_tells (z : Nat) (c : Option Nat) (ts : List Tr) (fv : AV) (p : Tr → Bool) (hp : ∀ a ∈ ts, ∀ H id, fnV cw0 mds fv [.agg a.cells] H id = some (.val (litB (p a)) none)) (hl : ts.length ≤ 1000) :
    ∃ H', cw0 52 [argsA z c ts, fv] [] = some (.ret (litI .i64 (findF p 0 ts)), H') := by
  have L := index52_loop z c ts fv p hp hl ts 0 rfl (Nat.zero_le _)
  rw [show ((0 : Nat) : Int) = 0 from rfl] at L
  refine cw0_ret fn52 (c := c52) rfl rfl rfl rfl ?_
  rcases L with ⟨h1, i', L⟩ | L
  · rw [h1]
    simp -implicitDefEqProofs only [c52, aW, ↓aP, makes, Nat.reduceLT, Nat.reduceEqDiff, Nat.reduceAdd, ↓reduceIte, Nat.reduceBEq, lenV_args, L]
    rfl
  · simp -implicitDefEqProofs only [c52, aW, ↓aP, makes, Nat.reduceLT, Nat.reduceEqDiff, Nat.reduceAdd, ↓reduceIte, Nat.reduceBEq, lenV_args, L]
    rfl
def clos (fv : AV) : AV := .fn (.func 39) [] [.ip [fv]]
theorem cont38_tells (z : Nat) (c : Option Nat) (ts : List Tr) (fv : AV) (p : Tr → Bool) (hp : ∀ a ∈ ts, ∀ H id, fnV cw0 mds (clos fv) [.agg a.cells] H id = some (.val (litB (p a)) none)) (hl : ts.length ≤ 1000) :
    ∃ H', cw0 38 [argsA z c ts, clos fv] [] = some (.ret (litB (ts.any p)), H') := by
  obtain ⟨H1, h52⟩ := index52_tells z c ts (clos fv) p hp hl
  have hc : ∀ H id, callV cw0 mds 52 [argsA z c ts, clos fv] H id = some (.val (litI .i64 (findF p 0 ts)) none) := fun H id => callV_flat (p := ([argsA z c ts, clos fv], [])) rfl rfl h52
  refine cw0_ret fn38 (c := c38) rfl rfl rfl rfl ?_
  rw [← findF_any p ts 0]
  simp -implicitDefEqProofs only [c38, aW, ↓aP, makes, Nat.reduceLT, Nat.reduceEqDiff, Nat.reduceAdd, ↓reduceIte, Nat.reduceBEq, hc]
  rfl
theorem every_call (z : Nat) (c : Option Nat) (ts : List Tr) (p : Tr → Bool) (hp : ∀ a ∈ ts, ∀ H id, callV cw0 mds 19 [.agg a.cells] H id = some (.val (litB (p a)) none)) (hl : ts.length ≤ 1000) (H : List AO) (id : Nat) :
    callV cw0 mds 27 [argsA z c ts, .fn (.func 19) [] []] H id = some (.val (litB (ts.all p)) none) := by
  have h39 : ∀ a ∈ ts, ∀ H id, fnV cw0 mds (clos (.fn (.func 19) [] [])) [.agg a.cells] H id = some (.val (litB (!(p a))) none) := by
    intro a ha H id
    have key : ∃ H', cw0 39 [.agg a.cells, .ip [.fn (.func 19) [] []]] [] = some (.ret (litB (!(p a))), H') := by
      refine cw0_ret fn39 (c := c39) rfl rfl rfl rfl ?_
      have l4 : Ai.load [rowT a] (some 4) (.ptr 0 0) = some (.agg a.cells) := ld4 rfl
      have c19 := hp a ha
      simp -implicitDefEqProofs only [c39, aW, ↓aP, makes, Nat.reduceLT, Nat.reduceEqDiff, Nat.reduceAdd, ↓reduceIte, Nat.reduceBEq, core_box, box_tr, List.length_nil, l4, c19]
      rfl
    obtain ⟨H', key⟩ := key
    show callV cw0 mds 39 ([] ++ [.agg a.cells] ++ [.ip [.fn (.func 19) [] []]]) H id = _
    exact callV_pureA rfl (by simp only [List.nil_append, List.singleton_append, List.all_cons, whole_cells]; rfl) key rfl
  obtain ⟨H1, h38⟩ := cont38_tells z c ts (.fn (.func 19) [] []) (fun a => !(p a)) h39 hl
  have hf : mapL (frz [.row [.fn (.func 19) [] []] 25] frzF) [argsA z c ts, .fn (.func 39) [] [.ptr 0 0]] = some ([argsA z c ts, clos (.fn (.func 19) [] [])], [0]) := rfl
  have hc : ∀ id, callV cw0 mds 38 [argsA z c ts, .fn (.func 39) [] [.ptr 0 0]] [.row [.fn (.func 19) [] []] 25] id = some (.val (litB (ts.any fun a => !(p a))) none) := fun id => callV_flat rfl hf h38
  have hb : ∀ id, boxV id 1 (.fn (.func 19) [] []) 25 = some (.val (.ptr id 0) (some (.row [.fn (.func 19) [] []] 25))) := fun id => rfl
  have hall : ts.all p = !(ts.any fun a => !(p a)) := by
    rw [List.not_any_eq_all_not]; simp
  have key : ∃ H', cw0 27 [argsA z c ts, .fn (.func 19) [] []] [] = some (.ret (litB (ts.all p)), H') := by
    rw [hall]
    refine cw0_ret fn27 (c := c27) rfl rfl rfl rfl ?_
    simp -implicitDefEqProofs only [c27, aW, ↓aP, makes, Nat.reduceLT, Nat.reduceEqDiff, Nat.reduceAdd, ↓reduceIte, Nat.reduceBEq, core_box, hb, List.length_nil, core_mkf, hc]
    rfl
  obtain ⟨H', key⟩ := key
  exact callV_flat (p := ([argsA z c ts, .fn (.func 19) [] []], [])) rfl rfl key
mutual
def allT : Tr → Bool
  | .mk k n _ _ ts _ => ownB k n ts.length && allL ts
def allL : List Tr → Bool
  | [] => true
  | a :: r => allT a && allL r
end
theorem allL_all : ∀ ts : List Tr, allL ts = ts.all allT
  | [] => rfl
  | a :: r => by rw [allL, allL_all r]; rfl
theorem allT_eq (t : Tr) : allT t = (ownB t.k t.n t.ts.length && t.ts.all allT) := by
  cases t; rw [allT, allL_all]; rfl
theorem all_call : ∀ t : Tr, Sm t → ∀ H id, callV cw0 mds 19 [.agg t.cells] H id = some (.val (litB (allT t)) none) := by
  refine Tr.ind fun k n z c ts p ih S H id => ?_
  generalize ht : Tr.mk k n z c ts p = t at *
  have hts : t.ts = ts := by rw [← ht]; rfl
  have ih' : ∀ a ∈ t.ts, ∀ H id, callV cw0 mds 19 [.agg a.cells] H id = some (.val (litB (allT a)) none) := fun a ha => ih a (hts ▸ ha) (S.sub a ha)
  have oc := own_call t S
  have ec := every_call t.z t.c t.ts allT ih' S.len
  have l4 : Ai.load [rowT t] (some 4) (.ptr 0 0) = some (.agg t.cells) := ld4 rfl
  have h2 := ld2 (H := [rowT t]) (r := 0) (t := t) rfl
  have key : ∃ H', cw0 19 [.agg t.cells] [] = some (.ret (litB (allT t)), H') := by
    rw [allT_eq]
    refine cw0_ret fn19 (c := c19) rfl rfl rfl rfl ?_
    cases ho : ownB t.k t.n t.ts.length with
    | true =>
      rw [ho] at oc
      rw [Bool.true_and]
      simp -implicitDefEqProofs only [c19, aW, ↓aP, makes, Nat.reduceLT, Nat.reduceEqDiff, Nat.reduceAdd, ↓reduceIte, Nat.reduceBEq, core_box, box_tr, List.length_nil, l4, oc, fadr_ptr, h2, ec]
      rfl
    | false =>
      rw [ho] at oc
      rw [Bool.false_and]
      simp -implicitDefEqProofs only [c19, aW, ↓aP, makes, Nat.reduceLT, Nat.reduceEqDiff, Nat.reduceAdd, ↓reduceIte, Nat.reduceBEq, core_box, box_tr, List.length_nil, l4, oc]
      rfl
  obtain ⟨H', key⟩ := key
  exact callV_pureA rfl (by rw [List.all_cons, whole_cells]; rfl) key rfl
def rightT (t : Tr) : Bool := !(decide (40 < dep t)) && allT t
theorem right12_call (t : Tr) (S : Sm t) (hd : dep t ≤ 1000) (H : List AO) (id : Nat) : callV cw0 mds 12 [.agg t.cells] H id = some (.val (litB (rightT t)) none) := by
  have dc := deep_call t S hd
  have ac := all_call t S
  have l4 : Ai.load [rowT t] (some 4) (.ptr 0 0) = some (.agg t.cells) := ld4 rfl
  have key : ∃ H', cw0 12 [.agg t.cells] [] = some (.ret (litB (rightT t)), H') := by
    unfold rightT
    refine cw0_ret fn12 (c := c12) rfl rfl rfl rfl ?_
    cases ho : decide (40 < dep t) with
    | true =>
      rw [ho] at dc
      simp -implicitDefEqProofs only [c12, aW, ↓aP, makes, Nat.reduceLT, Nat.reduceEqDiff, Nat.reduceAdd, ↓reduceIte, Nat.reduceBEq, core_box, box_tr, List.length_nil, l4, dc, Bool.false_and]
      rfl
    | false =>
      rw [ho] at dc
      simp -implicitDefEqProofs only [c12, aW, ↓aP, makes, Nat.reduceLT, Nat.reduceEqDiff, Nat.reduceAdd, ↓reduceIte, Nat.reduceBEq, core_box, box_tr, List.length_nil, l4, dc, ac, Bool.true_and]
      rfl
  obtain ⟨H', key⟩ := key
  exact callV_pureA rfl (by rw [List.all_cons, whole_cells]; rfl) key rfl
end Go.Proofs.Ytkogkfpiijmbgaa.Ai
namespace Go.Proofs.Ytkogkfpiijmbgaa.Ai
open Go Go.Ai
theorem in42_loop (c : Option Nat) (l : List ByteArray) (v : ByteArray) (hl : l.length ≤ 1000) : ∀ (r : List ByteArray) (n : Nat), l.drop n = r → n ≤ l.length →
    (r.any (sEq v) = false ∧ ∃ i', loopW (codeW cw0 (lookM mtl) mds c42l0) [0, 1, 5] [(0, litS v), (1, rowS c l), (5, litI .i64 n)] [] = some (.exit 0, [(0, litS v), (1, rowS c l), (5, i'), (9, litB false)], [])) ∨
    (r.any (sEq v) = true ∧ loopW (codeW cw0 (lookM mtl) mds c42l0) [0, 1, 5] [(0, litS v), (1, rowS c l), (5, litI .i64 n)] [] = some (.ret, [(4, litB true)], []))
  | [], n, hd, hn => by
    have h : l.length ≤ n := by
      have := congrArg List.length hd
      rw [List.length_drop, List.length_nil] at this; omega
    left
    refine ⟨rfl, litI .i64 n, ?_⟩
    refine loopW_out ?_ (by simp)
    simp -implicitDefEqProofs only [c42l0, aW, ↓aP, makes, Nat.reduceLT, Nat.reduceEqDiff, Nat.reduceAdd, ↓reduceIte, Nat.reduceBEq, lenV_rowS, show ¬ ((n : Int) < l.length) by omega]
  | x :: r, n, hd, hn => by
    have hlt : n < l.length := by
      have := congrArg List.length hd
      rw [List.length_drop, List.length_cons] at this; omega
    have hg : l[n]? = some x := by
      have := congrArg List.head? hd
      rwa [List.head?_drop] at this
    have hlti : (n : Int) < l.length := by omega
    rw [List.any_cons]
    have e0 : (x.data.toList == v.data.toList) = sEq v x := sEq_comm x v
    cases hx : sEq v x with
    | true =>
      right
      refine ⟨by rw [Bool.true_or], ?_⟩
      rw [hx] at e0
      refine loopW_out ?_ (by simp)
      simp -implicitDefEqProofs only [c42l0, aW, ↓aP, makes, Nat.reduceLT, Nat.reduceEqDiff, Nat.reduceAdd, ↓reduceIte, Nat.reduceBEq, lenV_rowS, hlti, iadr_rowS hg, bin_eqlS, e0]
    | false =>
      rw [hx] at e0
      rw [Bool.false_or]
      have step : codeW cw0 (lookM mtl) mds c42l0 (keep [0, 1, 5] [(0, litS v), (1, rowS c l), (5, litI .i64 n)]) [] = some (.normal, [(0, litS v), (1, rowS c l), (5, litI .i64 ((n + 1 : Nat) : Int))], []) := by
        simp -implicitDefEqProofs only [c42l0, aW, ↓aP, makes, Nat.reduceLT, Nat.reduceEqDiff, Nat.reduceAdd, ↓reduceIte, Nat.reduceBEq, lenV_rowS, hlti, iadr_rowS hg, bin_eqlS, e0, wrap1 (show n < 4611686018427387904 by omega)]
      rcases in42_loop c l v hl r (n + 1) (by rw [← List.drop_drop, hd]; rfl) (by omega) with ⟨h1, i', h⟩ | ⟨h1, h⟩
      · exact .inl ⟨h1, i', loopW_round step h⟩
      · exact .inr ⟨h1, loopW_round step h⟩
theorem in42_call (c : Option Nat) (l : List ByteArray) (v : ByteArray) (hl : l.length ≤ 1000) (H : List AO) (id : Nat) : callV cw0 mds 42 [litS v, rowS c l] H id = some (.val (litB (l.any (sEq v))) none) := by
  have key : ∃ H', cw0 42 [litS v, rowS c l] [] = some (.ret (litB (l.any (sEq v))), H') := by
    have L := in42_loop c l v hl l 0 rfl (Nat.zero_le _)
    rw [show ((0 : Nat) : Int) = 0 from rfl] at L
    refine cw0_ret fn42 (c := c42) rfl rfl rfl rfl ?_
    rcases L with ⟨h1, i', L⟩ | ⟨h1, L⟩
    · rw [h1]
      simp -implicitDefEqProofs only [c42, aW, ↓aP, makes, Nat.reduceLT, Nat.reduceEqDiff, Nat.reduceAdd, ↓reduceIte, Nat.reduceBEq, L]
      rfl
    · rw [h1]
      simp -implicitDefEqProofs only [c42, aW, ↓aP, makes, Nat.reduceLT, Nat.reduceEqDiff, Nat.reduceAdd, ↓reduceIte, Nat.reduceBEq, L]
      rfl
  obtain ⟨H', key⟩ := key
  exact callV_pure rfl rfl key rfl
set_option maxRecDepth 100000 in
theorem signs43_run : (codeW cw0 (lookM mtl) mds c43 (initFr 0 []) []).bind (fin fn43) = some (.ret (rowS (some 16) biL), []) := by kernel_rfl
theorem signs43_call (H : List AO) (id : Nat) : callV cw0 mds 43 [] H id = some (.val (rowS (some 16) biL) none) :=
  callV_pure rfl rfl (cw0_of fn43 rfl rfl rfl rfl signs43_run) rfl
set_option maxHeartbeats 4000000 in
theorem own28_tells (t : Tr) (S : Sm t) : ∃ H', cw0 28 [.agg t.cells] [] = some (.ret (litB (ownB t.k t.n t.ts.length)), H') := by
  refine cw0_ret fn28 (c := c28) rfl rfl rfl rfl ?_
  have h0 := ld0 (H := [rowT t]) (r := 0) (t := t) rfl
  have h1 := ld1 (H := [rowT t]) (r := 0) (t := t) rfl
  have h2 := ld2 (H := [rowT t]) (r := 0) (t := t) rfl
  have hn : t.n.size ≤ 65536 := by have := S.name; omega
  have nc := num40 t.n hn
  have cc := token41_call 2 t.n hn
  have mc := token41_call 1 t.n hn
  have uc := in42_call (some 5) unL t.n (by decide)
  have bc := in42_call (some 16) biL t.n (by decide)
  have sc := signs43_call
  have len : ∀ m : Nat, ((t.ts.length : Int) == (m : Int)) = (t.ts.length == m) := fun m => by
    by_cases h : t.ts.length = m
    · rw [beq_iff_eq.2 h]; exact beq_iff_eq.2 (by omega)
    · rw [beq_eq_false_iff_ne.2 h]; exact beq_eq_false_iff_ne.2 (by omega)
  have n0 := len 0
  have n1 := len 1
  have n2 := len 2
  have n3 := len 3
  simp only [show ((0 : Nat) : Int) = 0 from rfl, show ((1 : Nat) : Int) = 1 from rfl, show ((2 : Nat) : Int) = 2 from rfl, show ((3 : Nat) : Int) = 3 from rfl] at n0 n1 n2 n3
  unfold ownB
  by_cases k1 : t.k = 1
  · rw [if_pos k1]
    cases hz : (t.ts.length == 0) with
    | true =>
      rw [Bool.true_and]
      rw [hz] at n0
      cases ht : isS t.n [116, 114, 117, 101] with
      | true =>
        simp -implicitDefEqProofs only [c28, aW, ↓aP, makes, Nat.reduceLT, Nat.reduceEqDiff, Nat.reduceAdd, ↓reduceIte, Nat.reduceBEq, core_box, box_tr, List.length_nil, List.length_cons, fadr_ptr, h0, h1, h2, ↓bu, lenV_args, Int.reduceBEq, bin_eqlS, isS_eq, k1, n0, ht]
        rfl
      | false =>
        simp -implicitDefEqProofs only [c28, aW, ↓aP, makes, Nat.reduceLT, Nat.reduceEqDiff, Nat.reduceAdd, ↓reduceIte, Nat.reduceBEq, core_box, box_tr, List.length_nil, List.length_cons, fadr_ptr, h0, h1, h2, ↓bu, lenV_args, Int.reduceBEq, bin_eqlS, isS_eq, k1, n0, ht]
        rfl
    | false =>
      rw [Bool.false_and]
      rw [hz] at n0
      simp -implicitDefEqProofs only [c28, aW, ↓aP, makes, Nat.reduceLT, Nat.reduceEqDiff, Nat.reduceAdd, ↓reduceIte, Nat.reduceBEq, core_box, box_tr, List.length_nil, List.length_cons, fadr_ptr, h0, h1, h2, ↓bu, lenV_args, Int.reduceBEq, bin_eqlS, isS_eq, k1, n0]
      rfl
  rw [if_neg k1]
  by_cases k2 : t.k = 2
  · rw [if_pos k2]
    cases hz : (t.ts.length == 0) with
    | true =>
      rw [Bool.true_and]
      rw [hz] at n0
      simp -implicitDefEqProofs only [c28, aW, ↓aP, makes, Nat.reduceLT, Nat.reduceEqDiff, Nat.reduceAdd, ↓reduceIte, Nat.reduceBEq, core_box, box_tr, List.length_nil, List.length_cons, fadr_ptr, h0, h1, h2, ↓bu, lenV_args, Int.reduceBEq, bin_eqlS, isS_eq, k2, n0, nc]
      rfl
    | false =>
      rw [Bool.false_and]
      rw [hz] at n0
      simp -implicitDefEqProofs only [c28, aW, ↓aP, makes, Nat.reduceLT, Nat.reduceEqDiff, Nat.reduceAdd, ↓reduceIte, Nat.reduceBEq, core_box, box_tr, List.length_nil, List.length_cons, fadr_ptr, h0, h1, h2, ↓bu, lenV_args, Int.reduceBEq, bin_eqlS, isS_eq, k2, n0]
      rfl
  rw [if_neg k2]
  by_cases k3 : t.k = 3
  · rw [if_pos k3]
    cases hz : (t.ts.length == 0) with
    | true =>
      rw [Bool.true_and]
      rw [hz] at n0
      simp -implicitDefEqProofs only [c28, aW, ↓aP, makes, Nat.reduceLT, Nat.reduceEqDiff, Nat.reduceAdd, ↓reduceIte, Nat.reduceBEq, core_box, box_tr, List.length_nil, List.length_cons, fadr_ptr, h0, h1, h2, ↓bu, lenV_args, Int.reduceBEq, bin_eqlS, isS_eq, k3, n0, cc]
      rfl
    | false =>
      rw [Bool.false_and]
      rw [hz] at n0
      simp -implicitDefEqProofs only [c28, aW, ↓aP, makes, Nat.reduceLT, Nat.reduceEqDiff, Nat.reduceAdd, ↓reduceIte, Nat.reduceBEq, core_box, box_tr, List.length_nil, List.length_cons, fadr_ptr, h0, h1, h2, ↓bu, lenV_args, Int.reduceBEq, bin_eqlS, isS_eq, k3, n0]
      rfl
  rw [if_neg k3]
  by_cases k45 : t.k = 4 ∨ t.k = 5
  · rw [if_pos k45]
    rcases k45 with k4 | k5
    · cases hz : (t.ts.length == 0) with
      | true =>
        rw [Bool.true_and]
        rw [hz] at n0
        simp -implicitDefEqProofs only [c28, aW, ↓aP, makes, Nat.reduceLT, Nat.reduceEqDiff, Nat.reduceAdd, ↓reduceIte, Nat.reduceBEq, core_box, box_tr, List.length_nil, List.length_cons, fadr_ptr, h0, h1, h2, ↓bu, lenV_args, Int.reduceBEq, bin_eqlS, isS_eq, k4, n0, mc]
        rfl
      | false =>
        rw [Bool.false_and]
        rw [hz] at n0
        simp -implicitDefEqProofs only [c28, aW, ↓aP, makes, Nat.reduceLT, Nat.reduceEqDiff, Nat.reduceAdd, ↓reduceIte, Nat.reduceBEq, core_box, box_tr, List.length_nil, List.length_cons, fadr_ptr, h0, h1, h2, ↓bu, lenV_args, Int.reduceBEq, bin_eqlS, isS_eq, k4, n0]
        rfl
    · cases hz : (t.ts.length == 0) with
      | true =>
        rw [Bool.true_and]
        rw [hz] at n0
        simp -implicitDefEqProofs only [c28, aW, ↓aP, makes, Nat.reduceLT, Nat.reduceEqDiff, Nat.reduceAdd, ↓reduceIte, Nat.reduceBEq, core_box, box_tr, List.length_nil, List.length_cons, fadr_ptr, h0, h1, h2, ↓bu, lenV_args, Int.reduceBEq, bin_eqlS, isS_eq, k5, n0, mc]
        rfl
      | false =>
        rw [Bool.false_and]
        rw [hz] at n0
        simp -implicitDefEqProofs only [c28, aW, ↓aP, makes, Nat.reduceLT, Nat.reduceEqDiff, Nat.reduceAdd, ↓reduceIte, Nat.reduceBEq, core_box, box_tr, List.length_nil, List.length_cons, fadr_ptr, h0, h1, h2, ↓bu, lenV_args, Int.reduceBEq, bin_eqlS, isS_eq, k5, n0]
        rfl
  rw [if_neg k45]
  by_cases k6 : t.k = 6
  · rw [if_pos k6]
    cases hz : (t.ts.length == 1) with
    | true =>
      rw [Bool.true_and]
      rw [hz] at n1
      simp -implicitDefEqProofs only [c28, aW, ↓aP, makes, Nat.reduceLT, Nat.reduceEqDiff, Nat.reduceAdd, ↓reduceIte, Nat.reduceBEq, core_box, box_tr, List.length_nil, List.length_cons, fadr_ptr, h0, h1, h2, ↓bu, lenV_args, Int.reduceBEq, bin_eqlS, isS_eq, k6, n1, uc]
      rfl
    | false =>
      rw [Bool.false_and]
      rw [hz] at n1
      simp -implicitDefEqProofs only [c28, aW, ↓aP, makes, Nat.reduceLT, Nat.reduceEqDiff, Nat.reduceAdd, ↓reduceIte, Nat.reduceBEq, core_box, box_tr, List.length_nil, List.length_cons, fadr_ptr, h0, h1, h2, ↓bu, lenV_args, Int.reduceBEq, bin_eqlS, isS_eq, k6, n1]
      rfl
  rw [if_neg k6]
  by_cases k7 : t.k = 7
  · rw [if_pos k7]
    cases hz : (t.ts.length == 2) with
    | true =>
      rw [Bool.true_and]
      rw [hz] at n2
      simp -implicitDefEqProofs only [c28, aW, ↓aP, makes, Nat.reduceLT, Nat.reduceEqDiff, Nat.reduceAdd, ↓reduceIte, Nat.reduceBEq, core_box, box_tr, List.length_nil, List.length_cons, fadr_ptr, h0, h1, h2, ↓bu, lenV_args, Int.reduceBEq, bin_eqlS, isS_eq, k7, n2, sc, bc]
      rfl
    | false =>
      rw [Bool.false_and]
      rw [hz] at n2
      simp -implicitDefEqProofs only [c28, aW, ↓aP, makes, Nat.reduceLT, Nat.reduceEqDiff, Nat.reduceAdd, ↓reduceIte, Nat.reduceBEq, core_box, box_tr, List.length_nil, List.length_cons, fadr_ptr, h0, h1, h2, ↓bu, lenV_args, Int.reduceBEq, bin_eqlS, isS_eq, k7, n2]
      rfl
  rw [if_neg k7]
  by_cases k9 : t.k = 9
  · rw [if_pos k9]
    simp -implicitDefEqProofs only [c28, aW, ↓aP, makes, Nat.reduceLT, Nat.reduceEqDiff, Nat.reduceAdd, ↓reduceIte, Nat.reduceBEq, core_box, box_tr, List.length_nil, List.length_cons, fadr_ptr, h0, h1, h2, ↓bu, lenV_args, Int.reduceBEq, bin_eqlS, isS_eq, k9, mc]
    rfl
  rw [if_neg k9]
  by_cases k8 : t.k = 8
  · rw [if_pos k8]
    cases hz : (t.ts.length == 3) with
    | true =>
      rw [Bool.and_true]
      rw [hz] at n3
      simp -implicitDefEqProofs only [c28, aW, ↓aP, makes, Nat.reduceLT, Nat.reduceEqDiff, Nat.reduceAdd, ↓reduceIte, Nat.reduceBEq, core_box, box_tr, List.length_nil, List.length_cons, fadr_ptr, h0, h1, h2, ↓bu, lenV_args, Int.reduceBEq, bin_eqlS, isS_eq, k8, n3]
      rfl
    | false =>
      rw [Bool.and_false]
      rw [hz] at n3
      simp -implicitDefEqProofs only [c28, aW, ↓aP, makes, Nat.reduceLT, Nat.reduceEqDiff, Nat.reduceAdd, ↓reduceIte, Nat.reduceBEq, core_box, box_tr, List.length_nil, List.length_cons, fadr_ptr, h0, h1, h2, ↓bu, lenV_args, Int.reduceBEq, bin_eqlS, isS_eq, k8, n3]
      rfl
  rw [if_neg k8]
  by_cases k10 : t.k = 10
  · rw [if_pos k10]
    cases hz : (t.ts.length == 1) with
    | true =>
      rw [Bool.and_true]
      rw [hz] at n1
      simp -implicitDefEqProofs only [c28, aW, ↓aP, makes, Nat.reduceLT, Nat.reduceEqDiff, Nat.reduceAdd, ↓reduceIte, Nat.reduceBEq, core_box, box_tr, List.length_nil, List.length_cons, fadr_ptr, h0, h1, h2, ↓bu, lenV_args, Int.reduceBEq, bin_eqlS, isS_eq, k10, n1]
      rfl
    | false =>
      rw [Bool.and_false]
      rw [hz] at n1
      simp -implicitDefEqProofs only [c28, aW, ↓aP, makes, Nat.reduceLT, Nat.reduceEqDiff, Nat.reduceAdd, ↓reduceIte, Nat.reduceBEq, core_box, box_tr, List.length_nil, List.length_cons, fadr_ptr, h0, h1, h2, ↓bu, lenV_args, Int.reduceBEq, bin_eqlS, isS_eq, k10, n1]
      rfl
  rw [if_neg k10]
  by_cases k11 : t.k = 11
  · rw [if_pos k11]
    have hg : decide ((2 : Int) ≤ t.ts.length) = decide (2 ≤ t.ts.length) := decide_eq_decide.2 (by omega)
    cases hz : decide (2 ≤ t.ts.length) with
    | true =>
      rw [Bool.and_true]
      rw [hz] at hg
      simp -implicitDefEqProofs only [c28, aW, ↓aP, makes, Nat.reduceLT, Nat.reduceEqDiff, Nat.reduceAdd, ↓reduceIte, Nat.reduceBEq, core_box, box_tr, List.length_nil, List.length_cons, fadr_ptr, h0, h1, h2, ↓bu, lenV_args, Int.reduceBEq, bin_eqlS, isS_eq, k11, hg]
      rfl
    | false =>
      rw [Bool.and_false]
      rw [hz] at hg
      simp -implicitDefEqProofs only [c28, aW, ↓aP, makes, Nat.reduceLT, Nat.reduceEqDiff, Nat.reduceAdd, ↓reduceIte, Nat.reduceBEq, core_box, box_tr, List.length_nil, List.length_cons, fadr_ptr, h0, h1, h2, ↓bu, lenV_args, Int.reduceBEq, bin_eqlS, isS_eq, k11, hg]
      rfl
  rw [if_neg k11]
  have e1 : (t.k == 1) = false := beq_eq_false_iff_ne.2 k1
  have e2 : (t.k == 2) = false := beq_eq_false_iff_ne.2 k2
  have e3 : (t.k == 3) = false := beq_eq_false_iff_ne.2 k3
  have e6 : (t.k == 6) = false := beq_eq_false_iff_ne.2 k6
  have e7 : (t.k == 7) = false := beq_eq_false_iff_ne.2 k7
  have e8 : (t.k == 8) = false := beq_eq_false_iff_ne.2 k8
  have e9 : (t.k == 9) = false := beq_eq_false_iff_ne.2 k9
  have e10 : (t.k == 10) = false := beq_eq_false_iff_ne.2 k10
  have e11 : (t.k == 11) = false := beq_eq_false_iff_ne.2 k11
  have e4 : (t.k == 4) = false := beq_eq_false_iff_ne.2 fun h => k45 (.inl h)
  have e5 : (t.k == 5) = false := beq_eq_false_iff_ne.2 fun h => k45 (.inr h)
  simp -implicitDefEqProofs only [c28, aW, ↓aP, makes, Nat.reduceLT, Nat.reduceEqDiff, Nat.reduceAdd, ↓reduceIte, Nat.reduceBEq, core_box, box_tr, List.length_nil, List.length_cons, fadr_ptr, h0, h1, h2, ↓bu, lenV_args, Int.reduceBEq, bin_eqlS, isS_eq, e1, e2, e3, e4, e5, e6, e7, e8, e9, e10, e11]
  rfl
theorem own28_call (t : Tr) (S : Sm t) (H : List AO) (id : Nat) : callV cw0 mds 28 [.agg t.cells] H id = some (.val (litB (ownB t.k t.n t.ts.length)) none) := by
  obtain ⟨H', key⟩ := own28_tells t S
  exact callV_pureA rfl (by rw [List.all_cons, whole_cells]; rfl) key rfl
theorem all23_loop (t : Tr) (hl : t.ts.length ≤ 1000) (ih : ∀ a ∈ t.ts, ∀ H id, callV cw0 mds 23 [.agg a.cells] H id = some (.val (litB (allT a)) none)) :
    ∀ (r : List Tr) (i : Nat), t.ts.drop i = r → i ≤ t.ts.length →
      (r.all allT = true ∧ ∃ i', loopW (codeW cw0 (lookM mtl) mds c23l0) [1, 3] [(1, .ptr 0 0), (3, litI .i64 i)] [rowT t] = some (.exit 0, [(1, .ptr 0 0), (3, i'), (8, litB false)], [rowT t])) ∨
      (r.all allT = false ∧ loopW (codeW cw0 (lookM mtl) mds c23l0) [1, 3] [(1, .ptr 0 0), (3, litI .i64 i)] [rowT t] = some (.ret, [(2, litB false)], [rowT t]))
  | [], i, hd, hi => by
    have hn : t.ts.length ≤ i := by
      have := congrArg List.length hd
      rw [List.length_drop, List.length_nil] at this; omega
    left
    refine ⟨rfl, litI .i64 i, ?_⟩
    refine loopW_out ?_ (by simp)
    have h2 := ld2 (H := [rowT t]) (r := 0) (t := t) rfl
    simp -implicitDefEqProofs only [c23l0, aW, ↓aP, makes, Nat.reduceLT, Nat.reduceEqDiff, Nat.reduceAdd, ↓reduceIte, Nat.reduceBEq, fadr_ptr, h2, lenV_args, show ¬ ((i : Int) < t.ts.length) by omega]
  | a :: r, i, hd, hi => by
    have hlt : i < t.ts.length := by
      have := congrArg List.length hd
      rw [List.length_drop, List.length_cons] at this; omega
    have hg : t.ts[i]? = some a := by
      have := congrArg List.head? hd
      rwa [List.head?_drop] at this
    have hlti : (i : Int) < t.ts.length := by omega
    have h2 := ld2 (H := [rowT t]) (r := 0) (t := t) rfl
    have hc := ih a (List.mem_of_getElem? hg)
    rw [List.all_cons]
    cases ha : allT a with
    | false =>
      rw [ha] at hc
      right
      refine ⟨rfl, ?_⟩
      refine loopW_out ?_ (by simp)
      simp -implicitDefEqProofs only [c23l0, aW, ↓aP, makes, Nat.reduceLT, Nat.reduceEqDiff, Nat.reduceAdd, ↓reduceIte, Nat.reduceBEq, fadr_ptr, h2, lenV_args, hlti, iadr_args hg, ldE, hc]
    | true =>
      rw [ha] at hc
      have step : codeW cw0 (lookM mtl) mds c23l0 (keep [1, 3] [(1, .ptr 0 0), (3, litI .i64 i)]) [rowT t] = some (.normal, [(1, .ptr 0 0), (3, litI .i64 ((i + 1 : Nat) : Int))], [rowT t]) := by
        simp -implicitDefEqProofs only [c23l0, aW, ↓aP, makes, Nat.reduceLT, Nat.reduceEqDiff, Nat.reduceAdd, ↓reduceIte, Nat.reduceBEq, fadr_ptr, h2, lenV_args, hlti, iadr_args hg, ldE, hc, wrap1 (show i < 4611686018427387904 by omega)]
      rw [Bool.true_and]
      rcases all23_loop t hl ih r (i + 1) (by rw [← List.drop_drop, hd]; rfl) (by omega) with ⟨e, i', h⟩ | ⟨e, h⟩
      · exact .inl ⟨e, i', loopW_round step h⟩
      · exact .inr ⟨e, loopW_round step h⟩
theorem all23_call : ∀ t : Tr, Sm t → ∀ H id, callV cw0 mds 23 [.agg t.cells] H id = some (.val (litB (allT t)) none) := by
  refine Tr.ind fun k n z c ts p ih S H id => ?_
  generalize ht : Tr.mk k n z c ts p = t at *
  have hts : t.ts = ts := by rw [← ht]; rfl
  have ih' : ∀ a ∈ t.ts, ∀ H id, callV cw0 mds 23 [.agg a.cells] H id = some (.val (litB (allT a)) none) := fun a ha => ih a (hts ▸ ha) (S.sub a ha)
  have oc := own28_call t S
  have l4 : Ai.load [rowT t] (some 4) (.ptr 0 0) = some (.agg t.cells) := ld4 rfl
  have L := all23_loop t S.len ih' t.ts 0 rfl (Nat.zero_le _)
  rw [show ((0 : Nat) : Int) = 0 from rfl] at L
  have key : ∃ H', cw0 23 [.agg t.cells] [] = some (.ret (litB (allT t)), H') := by
    rw [allT_eq]
    refine cw0_ret fn23 (c := c23) rfl rfl rfl rfl ?_
    rcases L with ⟨e, i', L⟩ | ⟨e, L⟩
    · rw [e, Bool.and_true]
      simp -implicitDefEqProofs only [c23, aW, ↓aP, makes, Nat.reduceLT, Nat.reduceEqDiff, Nat.reduceAdd, ↓reduceIte, Nat.reduceBEq, core_box, box_tr, List.length_nil, L, l4, oc]
      rfl
    · rw [e, Bool.and_false]
      simp -implicitDefEqProofs only [c23, aW, ↓aP, makes, Nat.reduceLT, Nat.reduceEqDiff, Nat.reduceAdd, ↓reduceIte, Nat.reduceBEq, core_box, box_tr, List.length_nil, L]
      rfl
  obtain ⟨H', key⟩ := key
  exact callV_pureA rfl (by rw [List.all_cons, whole_cells]; rfl) key rfl
theorem dep22_loop (t : Tr) (hl : t.ts.length ≤ 1000) (ih : ∀ a ∈ t.ts, ∀ H id, callV cw0 mds 22 [.agg a.cells] H id = some (.val (litI .i64 (dep a)) none)) :
    ∀ (r : List Tr) (i m : Nat), t.ts.drop i = r → i ≤ t.ts.length →
      ∃ i', loopW (codeW cw0 (lookM mtl) mds c22l0) [1, 3, 4] [(1, .ptr 0 0), (3, litI .i64 m), (4, litI .i64 i)] [rowT t] = some (.exit 0, [(1, .ptr 0 0), (3, litI .i64 (max m (depL r) : Nat)), (4, i'), (9, litB false)], [rowT t])
  | [], i, m, hd, hi => by
    have hn : t.ts.length ≤ i := by
      have := congrArg List.length hd
      rw [List.length_drop, List.length_nil] at this; omega
    refine ⟨litI .i64 i, ?_⟩
    rw [depL, show max m 0 = m by omega]
    refine loopW_out ?_ (by simp)
    have h2 := ld2 (H := [rowT t]) (r := 0) (t := t) rfl
    simp -implicitDefEqProofs only [c22l0, aW, ↓aP, makes, Nat.reduceLT, Nat.reduceEqDiff, Nat.reduceAdd, ↓reduceIte, Nat.reduceBEq, fadr_ptr, h2, lenV_args, show ¬ ((i : Int) < t.ts.length) by omega]
  | a :: r, i, m, hd, hi => by
    have hlt : i < t.ts.length := by
      have := congrArg List.length hd
      rw [List.length_drop, List.length_cons] at this; omega
    have hg : t.ts[i]? = some a := by
      have := congrArg List.head? hd
      rwa [List.head?_drop] at this
    have hlti : (i : Int) < t.ts.length := by omega
    have h2 := ld2 (H := [rowT t]) (r := 0) (t := t) rfl
    have hc := ih a (List.mem_of_getElem? hg)
    have hm : (if (dep a : Int) > (m : Int) then (dep a : Int) else (m : Int)) = ((max m (dep a) : Nat) : Int) := by split <;> omega
    obtain ⟨i', L⟩ := dep22_loop t hl ih r (i + 1) (max m (dep a)) (by rw [← List.drop_drop, hd]; rfl) (by omega)
    refine ⟨i', ?_⟩
    rw [depL, show max m (max (dep a) (depL r)) = max (max m (dep a)) (depL r) by omega]
    refine loopW_round ?_ L
    rw [← hm]
    simp -implicitDefEqProofs only [c22l0, aW, ↓aP, makes, Nat.reduceLT, Nat.reduceEqDiff, Nat.reduceAdd, ↓reduceIte, Nat.reduceBEq, fadr_ptr, h2, lenV_args, hlti, iadr_args hg, ldE, hc, core_maxiV, foldI_two, wrap1 (show i < 4611686018427387904 by omega)]
    by_cases hx : (dep a : Int) > (m : Int)
    · rw [if_pos hx, decide_eq_true hx]; rfl
    · rw [if_neg hx, decide_eq_false hx]; rfl
theorem dep22_call : ∀ t : Tr, Sm t → dep t ≤ 1000 → ∀ H id, callV cw0 mds 22 [.agg t.cells] H id = some (.val (litI .i64 (dep t)) none) := by
  refine Tr.ind fun k n z c ts p ih S hd H id => ?_
  generalize ht : Tr.mk k n z c ts p = t at *
  have hts : t.ts = ts := by rw [← ht]; rfl
  have ih' : ∀ a ∈ t.ts, ∀ H id, callV cw0 mds 22 [.agg a.cells] H id = some (.val (litI .i64 (dep a)) none) := fun a ha => ih a (hts ▸ ha) (S.sub a ha) (by
    have := depL_le t.ts a ha
    rw [dep_eq] at hd; omega)
  obtain ⟨i', L⟩ := dep22_loop t S.len ih' t.ts 0 0 rfl (Nat.zero_le _)
  rw [show ((0 : Nat) : Int) = 0 from rfl, show max 0 (depL t.ts) = depL t.ts by omega] at L
  have hw : IntKind.wrap .i64 ((depL t.ts : Int) + 1) = ((dep t : Nat) : Int) := by
    rw [dep_eq] at hd ⊢
    rw [Go.Ai.wrap_small] <;> omega
  have key : ∃ H', cw0 22 [.agg t.cells] [] = some (.ret (litI .i64 (dep t)), H') := by
    refine cw0_ret fn22 (c := c22) rfl rfl rfl rfl ?_
    simp -implicitDefEqProofs only [c22, aW, ↓aP, makes, Nat.reduceLT, Nat.reduceEqDiff, Nat.reduceAdd, ↓reduceIte, Nat.reduceBEq, core_box, box_tr, List.length_nil, L, hw]
    rfl
  obtain ⟨H', key⟩ := key
  exact callV_pureA rfl (by rw [List.all_cons, whole_cells]; rfl) key rfl
theorem right15_call (t : Tr) (S : Sm t) (hd : dep t ≤ 1000) (H : List AO) (id : Nat) : callV cw0 mds 15 [.agg t.cells] H id = some (.val (litB (rightT t)) none) := by
  have dc := dep22_call t S hd
  have ac := all23_call t S
  have l4 : Ai.load [rowT t] (some 4) (.ptr 0 0) = some (.agg t.cells) := ld4 rfl
  have key : ∃ H', cw0 15 [.agg t.cells] [] = some (.ret (litB (rightT t)), H') := by
    unfold rightT
    refine cw0_ret fn15 (c := c15) rfl rfl rfl rfl ?_
    by_cases ho : 40 < dep t
    · rw [decide_eq_true ho]
      simp -implicitDefEqProofs only [c15, aW, ↓aP, makes, Nat.reduceLT, Nat.reduceEqDiff, Nat.reduceAdd, ↓reduceIte, Nat.reduceBEq, core_box, box_tr, List.length_nil, l4, dc, show ¬ ((dep t : Int) ≤ 40) by omega, Bool.false_and]
      rfl
    · rw [decide_eq_false ho]
      simp -implicitDefEqProofs only [c15, aW, ↓aP, makes, Nat.reduceLT, Nat.reduceEqDiff, Nat.reduceAdd, ↓reduceIte, Nat.reduceBEq, core_box, box_tr, List.length_nil, l4, dc, show ((dep t : Int) ≤ 40) by omega, ac, Bool.true_and]
      rfl
  obtain ⟨H', key⟩ := key
  exact callV_pureA rfl (by rw [List.all_cons, whole_cells]; rfl) key rfl
end Go.Proofs.Ytkogkfpiijmbgaa.Ai
namespace Go.Proofs.Ytkogkfpiijmbgaa.Ai
open Go Go.Ai
def H7 (t : Tr) (e q : Int) : List AO := [rowT t, .row [litI .i64 e] 26, .row [litI .i64 q] 3]
theorem st71 (t : Tr) (e q e' : Int) : storeAt (H7 t e q) 1 (.ptr 1 0) (litI .i64 e') = some (H7 t e' q) := rfl
theorem st72 (t : Tr) (e q q' : Int) : storeAt (H7 t e q) 1 (.ptr 2 0) (litI .i64 q') = some (H7 t e q') := rfl
theorem p70 (t : Tr) : code0 c7p0 [(0, .agg t.cells)] [] = some (.normal, [(1, .ptr 0 0), (2, litI .i64 0), (3, .ptr 1 0), (4, .ptr 2 0)], H7 t 0 0) := by
  unfold code0
  simp -implicitDefEqProofs only [c7p0, aW, ↓aP, makes, Nat.reduceLT, Nat.reduceEqDiff, Nat.reduceAdd, ↓reduceIte, Nat.reduceBEq, core_box, box_tr, List.length_nil, List.length_cons]
  rfl
theorem p71 (t : Tr) (S : Sm t) (hd : dep t ≤ 1000) : code0 c7p1 [(1, .ptr 0 0), (2, litI .i64 0), (3, .ptr 1 0), (4, .ptr 2 0)] (H7 t 0 0) = some (.normal, [(1, .ptr 0 0), (2, litI .i64 0), (3, .ptr 1 0), (4, .ptr 2 0), (7, litB (!(rightT t)))], H7 t 0 0) := by
  have l4 : Ai.load (H7 t 0 0) (some 4) (.ptr 0 0) = some (.agg t.cells) := ld4 rfl
  have rc := right12_call t S hd
  unfold code0
  simp -implicitDefEqProofs only [c7p1, aW, ↓aP, makes, Nat.reduceLT, Nat.reduceEqDiff, Nat.reduceAdd, ↓reduceIte, Nat.reduceBEq, l4, rc]
theorem p72t (t : Tr) : code0 c7p2 [(1, .ptr 0 0), (2, litI .i64 0), (3, .ptr 1 0), (4, .ptr 2 0), (7, litB true)] (H7 t 0 0) = some (.ret, [(2, litI .i64 0), (3, .ptr 1 0), (4, .ptr 2 0)], H7 t 1 0) := by
  unfold code0
  simp -implicitDefEqProofs only [c7p2, aW, ↓aP, makes, Nat.reduceLT, Nat.reduceEqDiff, Nat.reduceAdd, ↓reduceIte, Nat.reduceBEq, st71, st72]
theorem p72f (t : Tr) : code0 c7p2 [(1, .ptr 0 0), (2, litI .i64 0), (3, .ptr 1 0), (4, .ptr 2 0), (7, litB false)] (H7 t 0 0) = some (.normal, [(1, .ptr 0 0), (2, litI .i64 0), (3, .ptr 1 0), (4, .ptr 2 0), (7, litB false)], H7 t 0 0) := by
  unfold code0
  simp -implicitDefEqProofs only [c7p2, aW, ↓aP, makes, Nat.reduceLT, Nat.reduceEqDiff, Nat.reduceAdd, ↓reduceIte, Nat.reduceBEq]
theorem p74n (t : Tr) (n : Int) (h : ∀ H id, callV cw0 mds 14 [.agg t.cells] H id = some (.val (litI .i64 n) none)) : code0 c7p4 [(1, .ptr 0 0), (2, litI .i64 0), (3, .ptr 1 0), (4, .ptr 2 0)] (H7 t 0 0) = some (.normal, [(2, litI .i64 n), (3, .ptr 1 0), (4, .ptr 2 0)], H7 t 0 0) := by
  have l4 : Ai.load (H7 t 0 0) (some 4) (.ptr 0 0) = some (.agg t.cells) := ld4 rfl
  unfold code0
  simp -implicitDefEqProofs only [c7p4, aW, ↓aP, makes, Nat.reduceLT, Nat.reduceEqDiff, Nat.reduceAdd, ↓reduceIte, Nat.reduceBEq, l4, h, st71, st72]
theorem p74p (t : Tr) (q : Int) (h : ∀ H id, callV cw0 mds 14 [.agg t.cells] H id = some (.pan (stopA q) H)) : code0 c7p4 [(1, .ptr 0 0), (2, litI .i64 0), (3, .ptr 1 0), (4, .ptr 2 0)] (H7 t 0 0) = some (.pan (stopA q), [(1, .ptr 0 0), (2, litI .i64 0), (3, .ptr 1 0), (4, .ptr 2 0), (8, .agg t.cells)], H7 t 0 0) := by
  have l4 : Ai.load (H7 t 0 0) (some 4) (.ptr 0 0) = some (.agg t.cells) := ld4 rfl
  unfold code0
  simp -implicitDefEqProofs only [c7p4, aW, ↓aP, makes, Nat.reduceLT, Nat.reduceEqDiff, Nat.reduceAdd, ↓reduceIte, Nat.reduceBEq, l4, h]
theorem gR_eq {cw : C → Fr → List AO → Option S} {rn : List O → Fr → List AO → Option SR} {F : FR} {m : Option AV} {args : List AV} {H : List AO} {p : S × Option AV} (hl : (args.length == F.np) = true) (h : rpW cw rn F.rp (initFr 0 args) H m = some p) : gR cw rn F m args H = finR F p := by
  unfold gR
  rw [hl, cond_true, h]; rfl
theorem gD_eq {cw : C → Fr → List AO → Option S} {rn : List O → Fr → List AO → Option SR} {dc : DcF} {F : FD} {args : List AV} {H : List AO} {p : S × List Dfr} (hl : (args.length == F.np) = true) (h : spW cw rn F.sp (initFr 0 args) H [] = some p) : gD cw rn dc F args H = finD F dc p := by
  unfold gD
  rw [hl, cond_true, h]; rfl
theorem dc0_eq (m : Option AV) (args : List AV) (H : List AO) : dc0 13 m args H = gR code0 run0 fr13 m args H := rfl
theorem finR_of {F : FR} {fr : Fr} {H : List AO} {m : Option AV} (hr : F.res = []) : finR F ((.normal, fr, H), m) = some (m, H) := by
  unfold finR
  simp only [hr]
  rfl
theorem finD_of {F : FD} {dc : DcF} {e : EX} {fr : Fr} {H H2 : List AO} {ds : List Dfr} {m : Option AV} {a : AV} (hm : modeS e = some m) (h : leaveW dc ds m H = some (none, H2)) (hr : res fr H2 F.res = some a) : finD F dc ((e, fr, H), ds) = some (.ret a, H2) := by
  unfold finD
  simp only [hm, Option.bind_some, h, hr]
theorem leave_one {dc : DcF} {f : FuncId} {args : List AV} {m m' : Option AV} {H H2 : List AO} (h : dc f m args H = some (m', H2)) : leaveW dc [(.fn (.func f) [] [], args)] m H = some (m', H2) := by
  unfold leaveW
  simp only [List.nil_append, List.append_nil, h, Option.bind_some]
  rfl
theorem rp_two {cw : C → Fr → List AO → Option S} {rn : List O → Fr → List AO → Option SR} {d : Option Nat} {l : List Nat} {c : C} {fr fr' : Fr} {H H' : List AO} {m : Option AV} (hr : ∀ fr H, rn [] fr H = some (.go fr H)) (h : cw c (keep l (putD fr d (m.getD nilI))) H = some (.normal, fr', H')) :
    rpW cw rn [.rcv [] d [] l, .code c] fr H m = some ((.normal, fr', H'), none) := by
  simp only [rpW, hr, Option.bind_some, h]
section
variable {cw : C → Fr → List AO → Option Ai.S} {rn : List O → Fr → List AO → Option SR} {c : C} {fr fr' : Fr} {H H' : List AO} {r : List Sp} {ds : List Dfr}
theorem spW_next (h : cw c fr H = some (.normal, fr', H')) : spW cw rn (.code c :: r) fr H ds = spW cw rn r fr' H' ds := by
  simp only [spW, h, Option.bind_some]
theorem spW_ret (h : cw c fr H = some (.ret, fr', H')) : spW cw rn (.code c :: r) fr H ds = some ((.ret, fr', H'), ds) := by
  simp only [spW, h, Option.bind_some]
theorem spW_pan {a : AV} (h : cw c fr H = some (.pan a, fr', H')) : spW cw rn (.code c :: r) fr H ds = some ((.pan a, fr', H'), ds) := by
  simp only [spW, h, Option.bind_some]
theorem spW_dfr {f : Fn} {xs : List X} {l : List Nat} (hr : ∀ fr H, rn [] fr H = some (.go fr H)) : spW cw rn (.dfr [] (.k (.fn f [] [])) xs [] l :: r) fr H ds = spW cw rn r (keep l fr) H ((.fn f [] [], xs.map (ev fr)) :: ds) := by
  simp only [spW, hr, Option.bind_some, ev_k, isFn, if_true]
end
theorem run0_nil (fr : Fr) (H : List AO) : run0 [] fr H = some (.go fr H) := rfl
theorem catch_none (t : Tr) (e q : Int) : dc0 13 none [.ptr 1 0, .ptr 2 0] (H7 t e q) = some (none, H7 t e q) := by
  have k : code0 c13p1 [(0, .ptr 1 0), (1, .ptr 2 0), (7, nilI)] (H7 t e q) = some (.normal, [], H7 t e q) := by
    unfold code0 nilI
    simp -implicitDefEqProofs only [c13p1, aW, ↓aP, makes, Nat.reduceLT, Nat.reduceEqDiff, Nat.reduceAdd, ↓reduceIte, Nat.reduceBEq, core_isn, isnV_nil]
  rw [dc0_eq, gR_eq (p := ((.normal, [], H7 t e q), none)) rfl (rp_two run0_nil k)]
  exact finR_of rfl
theorem st38 (t : Tr) (e q z : Int) : storeAt (H7 t e z ++ [.row [litI .i64 0] 38]) 1 (.ptr (H7 t e z).length 0) (.agg [litI .i64 q]) = some (H7 t e z ++ [.row [litI .i64 q] 38]) := rfl
theorem catch_stop (t : Tr) (e z q : Int) : dc0 13 (some (stopA q)) [.ptr 1 0, .ptr 2 0] (H7 t e z) = some (none, H7 t 110 q ++ [.row [litI .i64 q] 38]) := by
  have s1 : storeAt (H7 t e z ++ [.row [litI .i64 q] 38]) 1 (.ptr 1 0) (litI .i64 110) = some (H7 t 110 z ++ [.row [litI .i64 q] 38]) := rfl
  have s2 : storeAt (H7 t 110 z ++ [.row [litI .i64 q] 38]) 1 (.ptr 2 0) (litI .i64 q) = some (H7 t 110 q ++ [.row [litI .i64 q] 38]) := rfl
  have l1 : ∀ e z, Ai.load (H7 t e z ++ [.row [litI .i64 q] 38]) none (.ptr (H7 t e z).length 0) = some (litI .i64 q) := fun e z => rfl
  have hl : ∀ e z, (H7 t e z).length = 3 := fun e z => rfl
  have l1' : ∀ e z, Ai.load (H7 t e z ++ [.row [litI .i64 q] 38]) none (.ptr 3 0) = some (litI .i64 q) := fun e z => rfl
  have st := st38 t e q z
  rw [hl] at st
  have k : ∃ fr, code0 c13p1 [(0, .ptr 1 0), (1, .ptr 2 0), (7, stopA q)] (H7 t e z) = some (.normal, fr, H7 t 110 q ++ [.row [litI .i64 q] 38]) := by
    refine ⟨[], ?_⟩
    unfold code0 stopA
    simp -implicitDefEqProofs only [c13p1, aW, ↓aP, makes, Nat.reduceLT, Nat.reduceEqDiff, Nat.reduceAdd, ↓reduceIte, Nat.reduceBEq, core_isn, isnV_iface, hl, st, fadr_ptr, l1', nilck_ptr, s1, s2]
  obtain ⟨fr, k⟩ := k
  have e7 : keep [0, 1, 7] (putD [(0, .ptr 1 0), (1, .ptr 2 0)] (some 7) ((some (stopA q)).getD nilI)) = [(0, .ptr 1 0), (1, .ptr 2 0), (7, stopA q)] := rfl
  have r := rp_two (cw := code0) (rn := run0) (d := some 7) (l := [0, 1, 7]) (c := c13p1) (fr := [(0, .ptr 1 0), (1, .ptr 2 0)]) (m := some (stopA q)) run0_nil (by rw [e7]; exact k)
  rw [dc0_eq]
  have g := gR_eq (F := fr13) (args := [.ptr 1 0, .ptr 2 0]) rfl r
  rw [g]
  exact finR_of rfl
def levelOut (t : Tr) : Int × Int × Int := if rightT t = true then (match lev t with
  | .ok n => (n, 0, 0)
  | .error q => (0, 110, q)) else (0, 1, 0)
def lvA (p : Int × Int × Int) : AV := .tup [litI .i64 p.1, litI .i64 p.2.1, litI .i64 p.2.2]
theorem level_tells (t : Tr) (S : Sm t) (hd : dep t ≤ 1000) (hs : rightT t = true → Shp t) : ∃ H', levelG [.agg t.cells] [] = some (.ret (lvA (levelOut t)), H') := by
  have q0 := p70 t
  have q1 := p71 t S hd
  unfold levelOut
  have two : spW code0 run0 fd7.sp (initFr 0 [.agg t.cells]) [] [] = spW code0 run0 [.code c7p2, .dfr [] (.k (.fn (.func 13) [] [])) [.s 3, .s 4] [] [1, 2, 3, 4], .code c7p4, .code c7p5] [(1, .ptr 0 0), (2, litI .i64 0), (3, .ptr 1 0), (4, .ptr 2 0), (7, litB (!(rightT t)))] (H7 t 0 0) [] := by
    show spW code0 run0 [.code c7p0, .code c7p1, .code c7p2, .dfr [] (.k (.fn (.func 13) [] [])) [.s 3, .s 4] [] [1, 2, 3, 4], .code c7p4, .code c7p5] [(0, .agg t.cells)] [] [] = _
    rw [spW_next q0, spW_next q1]
  cases hr : rightT t with
  | false =>
    rw [hr, show (!false) = true from rfl, spW_ret (p72t t)] at two
    refine ⟨H7 t 1 0, ?_⟩
    unfold levelG
    rw [gD_eq (F := fd7) rfl two]
    exact finD_of (m := none) rfl rfl rfl
  | true =>
    have lc := lev_call t (hs hr)
    have kp : keep [1, 2, 3, 4] [(1, AV.ptr 0 0), (2, litI .i64 0), (3, .ptr 1 0), (4, .ptr 2 0), (7, litB false)] = [(1, .ptr 0 0), (2, litI .i64 0), (3, .ptr 1 0), (4, .ptr 2 0)] := rfl
    rw [hr, show (!true) = false from rfl, spW_next (p72f t), spW_dfr run0_nil, kp] at two
    rw [if_pos rfl]
    cases hv : lev t with
    | ok n =>
      rw [hv] at lc
      have c5 : code0 c7p5 [(2, litI .i64 n), (3, .ptr 1 0), (4, .ptr 2 0)] (H7 t 0 0) = some (.ret, [(2, litI .i64 n), (3, .ptr 1 0), (4, .ptr 2 0)], H7 t 0 0) := rfl
      rw [spW_next (p74n t n lc), spW_ret c5] at two
      refine ⟨H7 t 0 0, ?_⟩
      unfold levelG
      rw [gD_eq (F := fd7) rfl two]
      exact finD_of (m := none) rfl (leave_one (catch_none t 0 0)) rfl
    | error q =>
      rw [hv] at lc
      rw [spW_pan (p74p t q lc)] at two
      refine ⟨H7 t 110 q ++ [.row [litI .i64 q] 38], ?_⟩
      unfold levelG
      rw [gD_eq (F := fd7) rfl two]
      exact finD_of (m := some (stopA q)) rfl (leave_one (catch_stop t 0 0 q)) rfl
theorem level_call (t : Tr) (S : Sm t) (hd : dep t ≤ 1000) (hs : rightT t = true → Shp t) (H : List AO) (id : Nat) : callV cw mds 7 [.agg t.cells] H id = some (.val (lvA (levelOut t)) none) := by
  obtain ⟨H', h⟩ := level_tells t S hd hs
  have hc : cw 7 [.agg t.cells] [] = some (.ret (lvA (levelOut t)), H') := cw_ov (G := levelG) rfl h
  unfold callV
  rw [show mds 7 = .pure from rfl]
  simp only
  rw [show frzF = 14 + 2 from rfl, mapL_wholeA (by rw [List.all_cons, whole_cells]; rfl)]
  simp only [Option.bind_some]
  rw [hc]
  rfl
end Go.Proofs.Ytkogkfpiijmbgaa.Ai
namespace Go.Proofs.Ytkogkfpiijmbgaa.Ai
open Go Go.Ai
def saysTwo (n x : Int) : Option (R × List AO) → Bool
  | some (.ret (.tup [.lit (.int .i64 a), .lit (.int .i64 b)]), _) => a == n && b == x
  | _ => false
theorem saysTwo_some {n x : Int} {r : Option (R × List AO)} (h : saysTwo n x r = true) : ∃ H', r = some (.ret (.tup [litI .i64 n, litI .i64 x]), H') := by
  unfold saysTwo at h
  split at h
  · rw [Bool.and_eq_true, beq_iff_eq, beq_iff_eq] at h
    obtain ⟨rfl, rfl⟩ := h
    exact ⟨_, rfl⟩
  · cases h
theorem of_call {s : ByteArray} {n x : Int} {k : Nat} (h : saysTwo n x (callB (lookF tb) (ovP k) (lookM mtl) mds k 17 [litS s] []) = true) (H : List AO) (id : Nat) : callV cw mds 17 [litS s] H id = some (.val (.tup [litI .i64 n, litI .i64 x]) none) := by
  obtain ⟨H', h⟩ := saysTwo_some h
  exact callV_pureT rfl rfl (cw_run k h) rfl
set_option maxRecDepth 1000000 in
theorem of1 : saysTwo 0 0 (callB (lookF tb) (ovP 100) (lookM mtl) mds 100 17 [litS (bs [48, 32, 45, 62, 32, 112, 114, 101, 32, 110, 32, 43, 32, 49])] []) = true := by kernel_rfl
set_option maxRecDepth 1000000 in
theorem of2 : saysTwo 1 0 (callB (lookF tb) (ovP 100) (lookM mtl) mds 100 17 [litS (bs [112, 114, 101, 32, 110])] []) = true := by kernel_rfl
set_option maxRecDepth 1000000 in
theorem of3 : saysTwo 0 110 (callB (lookF tb) (ovP 100) (lookM mtl) mds 100 17 [litS (bs [112, 114, 101, 32, 112, 114, 101, 32, 110])] []) = true := by kernel_rfl
set_option maxRecDepth 1000000 in
theorem of4 : saysTwo 1 0 (callB (lookF tb) (ovP 100) (lookM mtl) mds 100 17 [litS (bs [40, 112, 114, 101, 32, 110, 41, 32, 102, 98, 121, 32, 48])] []) = true := by kernel_rfl
set_option maxRecDepth 1000000 in
theorem of5 : saysTwo 0 110 (callB (lookF tb) (ovP 100) (lookM mtl) mds 100 17 [litS (bs [49, 32, 102, 98, 121, 32, 112, 114, 101, 32, 110])] []) = true := by kernel_rfl
set_option maxHeartbeats 4000000 in
theorem awake9_tells : ∃ H', cw 9 [] [] = some (.ret (litB true), H') := by
  refine ⟨[], cw_of fn9 (c := c9) rfl rfl rfl rfl ?_⟩
  simp -implicitDefEqProofs only [c9, aW, ↓aP, makes, Nat.reduceLT, Nat.reduceEqDiff, Nat.reduceAdd, ↓reduceIte, Nat.reduceBEq, of_call of1, of_call of2, of_call of3, of_call of4, of_call of5]
  rfl
theorem awake9_call (H : List AO) (id : Nat) : callV cw mds 9 [] H id = some (.val (litB true) none) := by
  obtain ⟨H', h⟩ := awake9_tells
  exact callV_pure rfl rfl h rfl
end Go.Proofs.Ytkogkfpiijmbgaa.Ai
namespace Go.Proofs.Ytkogkfpiijmbgaa.Ai
open Go Go.Ai
theorem callV_up {f : FuncId} {args : List AV} {H : List AO} {id : Nat} {o : Out} (h : callV cw0 mds f args H id = some o) : callV cw mds f args H id = some o := callV_mono (callW_ovLe ovLe) h
theorem shp_of : ∀ t : Tr, Sm t → allT t = true → Shp t := by
  refine Tr.ind fun k n z c ts p ih S h => ?_
  rw [allT_eq, Bool.and_eq_true] at h
  obtain ⟨h1, h2⟩ := h
  simp only [Tr.k, Tr.n, Tr.ts] at h1 h2
  rw [List.all_eq_true] at h2
  refine .mk k n z c ts p (fun hk => ?_) (fun hk => ?_) S.len fun a ha => ih a ha (S.sub a ha) (h2 a ha)
  · subst hk
    unfold ownB at h1
    rw [if_neg (by decide), if_neg (by decide), if_neg (by decide), if_neg (by decide), if_neg (by decide), if_pos rfl, Bool.and_eq_true] at h1
    exact eq_of_beq h1.1
  · subst hk
    unfold ownB at h1
    rw [if_neg (by decide), if_neg (by decide), if_neg (by decide), if_neg (by decide), if_pos rfl, Bool.and_eq_true] at h1
    exact eq_of_beq h1.1
theorem shp_right {t : Tr} (S : Sm t) (h : rightT t = true) : Shp t := by
  unfold rightT at h
  rw [Bool.and_eq_true] at h
  exact shp_of t S h.2
theorem mx_01 : ∀ (r : List Int) (a : Int), (a = 0 ∨ a = 1) → (∀ x ∈ r, x = 0 ∨ x = 1) → (mx a r = 0 ∨ mx a r = 1) ∧ (mx a r = 0 ↔ a = 0 ∧ ∀ x ∈ r, x = 0)
  | [], a, ha, _ => by
    refine ⟨ha, fun h => ⟨h, fun x hx => by cases hx⟩, fun h => h.1⟩
  | b :: r, a, ha, hr => by
    have hb := hr b (List.mem_cons_self ..)
    have hm : (if b > a then b else a) = 0 ∨ (if b > a then b else a) = 1 := by split <;> assumption
    obtain ⟨h1, h2⟩ := mx_01 r (if b > a then b else a) hm fun x hx => hr x (List.mem_cons_of_mem _ hx)
    have e : mx a (b :: r) = mx (if b > a then b else a) r := rfl
    rw [e]
    refine ⟨h1, h2.trans ⟨fun ⟨x1, x2⟩ => ?_, fun ⟨x1, x2⟩ => ?_⟩⟩
    · split at x1
      · omega
      · refine ⟨x1, fun y hy => ?_⟩
        rcases List.mem_cons.1 hy with rfl | hy
        · omega
        · exact x2 y hy
    · have := x2 b (List.mem_cons_self ..)
      refine ⟨by split <;> omega, fun y hy => x2 y (List.mem_cons_of_mem _ hy)⟩
theorem mxL_01 (ls : List Int) (h : ∀ x ∈ ls, x = 0 ∨ x = 1) : (mxL ls = 0 ∨ mxL ls = 1) ∧ (mxL ls = 0 ↔ ∀ x ∈ ls, x = 0) := by
  cases ls with
  | nil => exact ⟨.inl rfl, fun _ x hx => (by cases hx), fun _ => rfl⟩
  | cons a r =>
    obtain ⟨h1, h2⟩ := mx_01 (r ++ [0]) a (h a (List.mem_cons_self ..)) fun x hx => by
      rcases List.mem_append.1 hx with hx | hx
      · exact h x (List.mem_cons_of_mem _ hx)
      · exact .inl (List.mem_singleton.1 hx)
    refine ⟨h1, h2.trans ⟨fun ⟨x1, x2⟩ y hy => ?_, fun x => ⟨x a (List.mem_cons_self ..), fun y hy => ?_⟩⟩⟩
    · rcases List.mem_cons.1 hy with rfl | hy
      · exact x1
      · exact x2 y (List.mem_append_left _ hy)
    · rcases List.mem_append.1 hy with hy | hy
      · exact x y (List.mem_cons_of_mem _ hy)
      · exact List.mem_singleton.1 hy
def LT (t : Tr) : Prop := ∀ n, lev t = .ok n → (n = 0 ∨ n = 1) ∧ (n = 0 ↔ told t = true)
theorem levL_told : ∀ (ts : List Tr) (ls : List Int), (∀ a ∈ ts, LT a) → levL ts = .ok ls → (∀ x ∈ ls, x = 0 ∨ x = 1) ∧ ((∀ x ∈ ls, x = 0) ↔ toldL ts = true) ∧ (∀ a r, ts = a :: r → (ls.headD 0 = 0 ∨ ls.headD 0 = 1) ∧ (ls.headD 0 = 0 ↔ told a = true))
  | [], ls, h, e => by
    cases e
    exact ⟨fun x hx => (by cases hx), ⟨fun _ => rfl, fun _ x hx => (by cases hx)⟩, fun a r h => by cases h⟩
  | a :: r, ls, h, e => by
    rw [levL] at e
    cases ha : lev a with
    | error q => rw [ha] at e; cases e
    | ok n =>
      rw [ha] at e
      cases hr : levL r with
      | error q => rw [hr] at e; cases e
      | ok l =>
        rw [hr] at e
        cases e
        obtain ⟨x1, x2⟩ := h a (List.mem_cons_self ..) n ha
        obtain ⟨y1, y2, _⟩ := levL_told r l (fun b hb => h b (List.mem_cons_of_mem _ hb)) hr
        refine ⟨fun x hx => ?_, ?_, fun b s hb => ?_⟩
        · rcases List.mem_cons.1 hx with rfl | hx
          · exact x1
          · exact y1 x hx
        · rw [toldL, Bool.and_eq_true, ← x2, ← y2]
          exact ⟨fun h => ⟨h n (List.mem_cons_self ..), fun x hx => h x (List.mem_cons_of_mem _ hx)⟩, fun h x hx => by
            rcases List.mem_cons.1 hx with rfl | hx
            · exact h.1
            · exact h.2 x hx⟩
        · cases hb
          exact ⟨x1, x2⟩
theorem lev_told : ∀ t : Tr, Shp t → LT t := by
  refine Tr.ind fun k n z c ts p ih S m h => ?_
  generalize hE : Tr.mk k n z c ts p = t at *
  have hts0 : t.ts = ts := by rw [← hE]; rfl
  rw [← hts0] at ih
  clear hts0 hE
  rw [lev_eq] at h
  rw [told_eq]
  cases hL : levL t.ts with
  | error q => rw [hL] at h; cases h
  | ok ls =>
    rw [hL] at h
    simp only at h
    obtain ⟨a1, a2, a3⟩ := levL_told t.ts ls (fun a ha => ih a ha (S.sub a ha)) hL
    unfold top at h
    by_cases c1 : t.k = 6 ∧ isS t.n [112, 114, 101] = true
    · rw [if_pos c1] at h ⊢
      split at h
      · simp only [Except.ok.injEq] at h; subst h; simp
      · cases h
    · rw [if_neg c1] at h ⊢
      by_cases k7 : t.k = 7
      · have h2 := S.two k7
        obtain ⟨a, b, hts⟩ : ∃ a b, t.ts = [a, b] := by
          match h : t.ts, h2 with
          | [a, b], _ => exact ⟨a, b, rfl⟩
        obtain ⟨b1, b2⟩ := a3 a [b] hts
        have hH : toldH t.ts = told a := by rw [hts]; rfl
        cases hf : isS t.n [102, 98, 121] with
        | true =>
          rw [hf] at h
          rw [if_pos ⟨k7, rfl⟩] at h
          rw [if_pos ⟨k7, .inr rfl⟩, hH]
          split at h
          · simp only [Except.ok.injEq] at h; subst h; exact ⟨b1, b2⟩
          · cases h
        | false =>
          rw [hf] at h
          rw [if_neg (by simp)] at h
          cases hp : isS t.n [45, 62] with
          | true =>
            rw [hp] at h
            rw [if_pos ⟨k7, rfl⟩] at h
            rw [if_pos ⟨k7, .inl rfl⟩, hH]
            simp only [Except.ok.injEq] at h; subst h; exact ⟨b1, b2⟩
          | false =>
            rw [hp] at h
            rw [if_neg (by simp), if_neg (by omega)] at h
            rw [if_neg (by simp), if_neg (by omega)]
            simp only [Except.ok.injEq] at h; subst h
            obtain ⟨m1, m2⟩ := mxL_01 ls a1
            exact ⟨m1, m2.trans a2⟩
      · rw [if_neg (fun h => k7 h.1), if_neg (fun h => k7 h.1)] at h
        rw [if_neg (fun h => k7 h.1)]
        by_cases k9 : t.k = 9 ∨ t.k = 10
        · rw [if_pos k9] at h ⊢
          have := bad_zero t.ts ls m h
          subst this
          simp
        · rw [if_neg k9] at h ⊢
          simp only [Except.ok.injEq] at h; subst h
          obtain ⟨m1, m2⟩ := mxL_01 ls a1
          exact ⟨m1, m2.trans a2⟩
theorem lv0 (p : Int × Int × Int) : lvA p = .tup [litI .i64 p.1, litI .i64 p.2.1, litI .i64 p.2.2] := rfl
end Go.Proofs.Ytkogkfpiijmbgaa.Ai
namespace Go.Proofs.Ytkogkfpiijmbgaa.Ai
open Go Go.Ai
def OutI (K : List AO) (A : AV) (l : List Int) : Prop := (l = [] ∧ A = .sl 0 [] (some 0)) ∨ ∃ q, q ≠ 0 ∧ A = .own q 0 l.length 1 none ∧ K[q]? = some (.row (l.map (litI .i64)) 3)
theorem OutI.len {K : List AO} {A : AV} {l : List Int} (h : OutI K A l) : lenV A = some (litI .i64 l.length) := by
  rcases h with ⟨rfl, rfl⟩ | ⟨q, _, rfl, _⟩ <;> rfl
theorem OutI.get {K : List AO} {A : AV} {l : List Int} (h : OutI K A l) {i : Nat} (hi : i < l.length) : ∃ c, iadr 1 A (litI .i64 (i : Int)) = some c ∧ Ai.load K none c = some (litI .i64 l[i]) := by
  rcases h with ⟨rfl, _⟩ | ⟨q, _, rfl, hq⟩
  · simp at hi
  · refine ⟨.ptr q i, ?_, ?_⟩
    · rw [iadr_own, if_pos ⟨Int.natCast_nonneg i, by omega⟩, Int.toNat_natCast, Nat.zero_add, Nat.mul_one]
    · rw [load_ptr hq, List.getElem?_map, List.getElem?_eq_getElem hi]; rfl
theorem app_int {K : List AO} {A : AV} {l : List Int} {X : AO} (h : OutI K A l) (hp : K[0]? = some X) (n : Int) (hl : l.length ≤ 1001) :
    ∃ A' K', (∀ (d : Option Nat) (fr : Fr) (k : Fr → List AO → Option S), opS (append K K.length 1 8 3 A (.sl 1 [[litI .i64 n]] (some 1))) d fr K k = k (putD fr d A') K') ∧ OutI K' A' (l ++ [n]) ∧ K'[0]? = some X := by
  have hpl := (List.getElem?_eq_some_iff.1 hp).1
  rcases h with ⟨rfl, rfl⟩ | ⟨q, h1, rfl, h3⟩
  · refine ⟨.own K.length 0 1 1 none, K ++ [.row [litI .i64 n] 3], fun d fr k => rfl, .inr ⟨K.length, by omega, rfl, ?_⟩, get_app hp⟩
    rw [get_last]; rfl
  · have hg : (setL K q .dead ++ [.row ((l ++ [n]).map (litI .i64)) 3])[K.length]? = some (.row ((l ++ [n]).map (litI .i64)) 3) := by
      have := get_last (setL K q .dead) (.row ((l ++ [n]).map (litI .i64)) 3)
      rwa [setL_len] at this
    refine ⟨.own K.length 0 (l ++ [n]).length 1 none, setL K q .dead ++ [.row ((l ++ [n]).map (litI .i64)) 3], fun d fr k => ?_, .inr ⟨K.length, by omega, rfl, hg⟩, get_app (setL_get (fun e => h1 e.symm) hp)⟩
    have b1 : Nat.ble (l.length * 1) (l.map (litI .i64)).length = true := Nat.ble_eq_true_of_le (by rw [List.length_map]; omega)
    have b2 : Nat.ble ((l.length + 1) * 8) 140737488355328 = true := Nat.ble_eq_true_of_le (by omega)
    have tk : (l.map (litI .i64)).take (l.length * 1) = l.map (litI .i64) := List.take_of_length_le (by rw [List.length_map]; omega)
    have e : append K K.length 1 8 3 (.own q 0 l.length 1 none) (.sl 1 [[litI .i64 n]] (some 1)) = some (.wr (.own K.length 0 (l ++ [n]).length 1 none) (setL K q .dead ++ [.row ((l ++ [n]).map (litI .i64)) 3])) := by
      unfold append
      simp only [elems, BEq.rfl, Bool.true_or, cond_true, Option.bind_some, List.length_cons, List.length_nil, Nat.zero_add, Nat.reduceBEq, cond_false, rowAt_of h3, b1, b2, Bool.and_self, List.drop_zero, tk, List.flatten_cons, List.flatten_nil, List.append_nil]
      simp
    rw [e, opS_wr]
def levR : Except Int Int → AV
  | .ok n => .tup [litI .i64 n, litI .i64 0, litI .i64 0]
  | .error q => .tup [litI .i64 0, litI .i64 110, litI .i64 q]
theorem levR_loop (t : Tr) (hl : t.ts.length ≤ 1000) (ih : ∀ a ∈ t.ts, ∀ H id, callV cw0 mds 16 [.agg a.cells] H id = some (.val (levR (lev a)) none)) :
    ∀ (r : List Tr) (i : Nat) (ls : List Int) (m : Int) (A : AV) (K : List AO), t.ts.drop i = r → i ≤ t.ts.length → ls.length = i → K[0]? = some (rowT t) → OutI K A ls →
      match levL r with
      | .ok l' => ∃ A' x K', loopW (codeW cw0 (lookM mtl) mds c16l0) [1, 5, 6, 7] [(1, .ptr 0 0), (5, A), (6, litI .i64 m), (7, litI .i64 i)] K = some (.exit 0, [(1, .ptr 0 0), (5, A'), (6, litI .i64 (mx m l')), (7, x), (16, litB false)], K') ∧ K'[0]? = some (rowT t) ∧ OutI K' A' (ls ++ l')
      | .error q => ∃ K', loopW (codeW cw0 (lookM mtl) mds c16l0) [1, 5, 6, 7] [(1, .ptr 0 0), (5, A), (6, litI .i64 m), (7, litI .i64 i)] K = some (.ret, [(2, litI .i64 0), (3, litI .i64 110), (4, litI .i64 q)], K')
  | [], i, ls, m, A, K, hd, hi, hls, h0, hO => by
    have hn : t.ts.length ≤ i := by
      have := congrArg List.length hd
      rw [List.length_drop, List.length_nil] at this; omega
    rw [levL]
    have h2 := ld2 h0
    refine ⟨A, litI .i64 i, K, ?_, h0, by rw [List.append_nil]; exact hO⟩
    refine loopW_out ?_ (by simp)
    simp -implicitDefEqProofs only [c16l0, aW, ↓aP, makes, Nat.reduceLT, Nat.reduceEqDiff, Nat.reduceAdd, ↓reduceIte, Nat.reduceBEq, fadr_ptr, h2, lenV_args, show ¬ ((i : Int) < t.ts.length) by omega]
    rfl
  | a :: r, i, ls, m, A, K, hd, hi, hls, h0, hO => by
    have hlt : i < t.ts.length := by
      have := congrArg List.length hd
      rw [List.length_drop, List.length_cons] at this; omega
    have hg : t.ts[i]? = some a := by
      have := congrArg List.head? hd
      rwa [List.head?_drop] at this
    have hlti : (i : Int) < t.ts.length := by omega
    have h2 := ld2 h0
    have hc := ih a (List.mem_of_getElem? hg)
    rw [levL]
    cases ha : lev a with
    | error q =>
      rw [ha] at hc
      unfold levR at hc
      simp only at hc ⊢
      refine ⟨K, loopW_out ?_ (by simp)⟩
      simp -implicitDefEqProofs only [c16l0, aW, ↓aP, makes, Nat.reduceLT, Nat.reduceEqDiff, Nat.reduceAdd, ↓reduceIte, Nat.reduceBEq, fadr_ptr, h2, lenV_args, hlti, iadr_args hg, ldE, hc, Int.reduceBNe]
    | ok n =>
      rw [ha] at hc
      unfold levR at hc
      simp only at hc
      obtain ⟨A4, K4, ap, O4, h4⟩ := app_int hO h0 n (by omega)
      have step : codeW cw0 (lookM mtl) mds c16l0 (keep [1, 5, 6, 7] [(1, .ptr 0 0), (5, A), (6, litI .i64 m), (7, litI .i64 i)]) K = some (.normal, [(1, .ptr 0 0), (5, A4), (6, litI .i64 (if n > m then n else m)), (7, litI .i64 ((i + 1 : Nat) : Int))], K4) := by
        simp -implicitDefEqProofs only [c16l0, aW, ↓aP, makes, Nat.reduceLT, Nat.reduceEqDiff, Nat.reduceAdd, ↓reduceIte, Nat.reduceBEq, fadr_ptr, h2, lenV_args, hlti, iadr_args hg, ldE, hc, Int.reduceBNe, core_app, ap, core_maxiV, foldI_two, wrap1 (show i < 4611686018427387904 by omega)]
        by_cases hx : n > m
        · rw [if_pos hx, decide_eq_true hx]; rfl
        · rw [if_neg hx, decide_eq_false hx]; rfl
      have IH := levR_loop t hl ih r (i + 1) (ls ++ [n]) (if n > m then n else m) A4 K4 (by rw [← List.drop_drop, hd]; rfl) (by omega) (by rw [List.length_append, hls]; rfl) h4 O4
      simp only
      cases hr : levL r with
      | error q =>
        rw [hr] at IH
        obtain ⟨K', L⟩ := IH
        exact ⟨K', loopW_round step L⟩
      | ok l' =>
        rw [hr] at IH
        obtain ⟨A', x, K', L, x0, x1⟩ := IH
        rw [List.append_assoc, List.singleton_append] at x1
        exact ⟨A', x, K', loopW_round step L, x0, x1⟩
theorem badR_loop (t : Tr) (hl : t.ts.length ≤ 1000) (ls : List Int) (hls : ls.length = t.ts.length) {A : AV} {K : List AO} (h0 : K[0]? = some (rowT t)) (hO : OutI K A ls) :
    ∀ (r : List Tr) (i : Nat), t.ts.drop i = r → i ≤ t.ts.length →
      match bad r (ls.drop i) with
      | .ok _ => ∃ x, loopW (codeW cw0 (lookM mtl) mds c16l1) [1, 5, 11] [(1, .ptr 0 0), (5, A), (11, litI .i64 i)] K = some (.exit 3, [(1, .ptr 0 0), (5, A), (11, x), (100, litB false)], K)
      | .error q => loopW (codeW cw0 (lookM mtl) mds c16l1) [1, 5, 11] [(1, .ptr 0 0), (5, A), (11, litI .i64 i)] K = some (.ret, [(2, litI .i64 0), (3, litI .i64 110), (4, litI .i64 q)], K)
  | [], i, hd, hi => by
    have hn : t.ts.length ≤ i := by
      have := congrArg List.length hd
      rw [List.length_drop, List.length_nil] at this; omega
    have : bad [] (ls.drop i) = .ok 0 := by cases ls.drop i <;> rfl
    rw [this]
    refine ⟨litI .i64 i, loopW_out ?_ (by simp)⟩
    simp -implicitDefEqProofs only [c16l1, aW, ↓aP, makes, Nat.reduceLT, Nat.reduceEqDiff, Nat.reduceAdd, ↓reduceIte, Nat.reduceBEq, hO.len, show ¬ ((i : Int) < ls.length) by omega]
  | a :: r, i, hd, hi => by
    have hlt : i < t.ts.length := by
      have := congrArg List.length hd
      rw [List.length_drop, List.length_cons] at this; omega
    have hg : t.ts[i]? = some a := by
      have := congrArg List.head? hd
      rwa [List.head?_drop] at this
    have hlti : (i : Int) < ls.length := by omega
    have h2 := ld2 h0
    obtain ⟨c, g1, g2⟩ := hO.get (i := i) (by omega)
    have hdl : ls.drop i = ls[i] :: ls.drop (i + 1) := List.drop_eq_getElem_cons (by omega)
    rw [hdl, bad]
    by_cases hz : ls[i] = 0
    · rw [if_pos hz]
      have hb : (ls[i] != 0) = false := by rw [bne_eq_false_iff_eq]; exact hz
      have step : codeW cw0 (lookM mtl) mds c16l1 (keep [1, 5, 11] [(1, .ptr 0 0), (5, A), (11, litI .i64 i)]) K = some (.normal, [(1, .ptr 0 0), (5, A), (11, litI .i64 ((i + 1 : Nat) : Int))], K) := by
        simp -implicitDefEqProofs only [c16l1, aW, ↓aP, makes, Nat.reduceLT, Nat.reduceEqDiff, Nat.reduceAdd, ↓reduceIte, Nat.reduceBEq, hO.len, hlti, g1, g2, hb, wrap1 (show i < 4611686018427387904 by omega)]
      have IH := badR_loop t hl ls hls h0 hO r (i + 1) (by rw [← List.drop_drop, hd]; rfl) (by omega)
      cases hr : bad r (ls.drop (i + 1)) with
      | error q =>
        rw [hr] at IH
        exact loopW_round step IH
      | ok l' =>
        rw [hr] at IH
        obtain ⟨x, L⟩ := IH
        exact ⟨x, loopW_round step L⟩
    · rw [if_neg hz]
      have hb : (ls[i] != 0) = true := bne_iff_ne.2 hz
      refine loopW_out ?_ (by simp)
      simp -implicitDefEqProofs only [c16l1, aW, ↓aP, makes, Nat.reduceLT, Nat.reduceEqDiff, Nat.reduceAdd, ↓reduceIte, Nat.reduceBEq, hO.len, hlti, g1, g2, hb, fadr_ptr, h2, iadr_args hg, fadr_cells3]
theorem mx_mxL (ls : List Int) (h : ∀ x ∈ ls, x = 0 ∨ x = 1) : mx 0 ls = mxL ls := by
  obtain ⟨a1, a2⟩ := mx_01 ls 0 (.inl rfl) h
  obtain ⟨b1, b2⟩ := mxL_01 ls h
  by_cases hz : ∀ x ∈ ls, x = 0
  · rw [a2.2 ⟨rfl, hz⟩, b2.2 hz]
  · have x1 : mx 0 ls ≠ 0 := fun e => hz (a2.1 e).2
    have x2 : mxL ls ≠ 0 := fun e => hz (b2.1 e)
    omega
theorem levL_01 : ∀ (ts : List Tr) (ls : List Int), (∀ a ∈ ts, Shp a) → levL ts = .ok ls → ∀ x ∈ ls, x = 0 ∨ x = 1 := fun ts ls h e => (levL_told ts ls (fun a ha => lev_told a (h a ha)) e).1
theorem levR_row (t : Tr) (S : Shp t) (ih : ∀ a ∈ t.ts, ∀ H id, callV cw0 mds 16 [.agg a.cells] H id = some (.val (levR (lev a)) none)) : ∃ H', cw0 16 [.agg t.cells] [] = some (.ret (levR (lev t)), H') := by
  have loop := levR_loop t S.len ih t.ts 0 [] 0 (.sl 0 [] (some 0)) [rowT t] rfl (Nat.zero_le _) rfl rfl (.inl ⟨rfl, rfl⟩)
  rw [show ((0 : Nat) : Int) = 0 from rfl] at loop
  rw [lev_eq]
  cases hL : levL t.ts with
  | error q =>
    rw [hL] at loop
    obtain ⟨K', L⟩ := loop
    refine cw0_ret fn16 (c := c16) rfl rfl rfl rfl ?_
    simp -implicitDefEqProofs only [c16, aW, ↓aP, makes, Nat.reduceLT, Nat.reduceEqDiff, Nat.reduceAdd, ↓reduceIte, Nat.reduceBEq, core_box, box_tr, List.length_nil, L]
    rfl
  | ok ls =>
    rw [hL] at loop
    obtain ⟨A', x', K', L, x0, x1⟩ := loop
    rw [List.nil_append] at x1
    rw [mx_mxL ls (levL_01 t.ts ls S.sub hL)] at L
    have hln := levL_len t.ts ls hL
    have e0 := ld0 x0
    have e1 := ld1 x0
    have e2 := ld2 x0
    have e3 := ld3 x0
    simp only
    unfold top
    by_cases k6 : t.k = 6
    · have e6 : (t.k == 6) = true := by rw [k6]; rfl
      have e7 : (t.k == 7) = false := by rw [k6]; rfl
      have e9 : (t.k == 9) = false := by rw [k6]; rfl
      have e10 : (t.k == 10) = false := by rw [k6]; rfl
      have h1l := S.one k6
      obtain ⟨c0, g1, g2⟩ := x1.get (i := 0) (by omega)
      rw [show ((0 : Nat) : Int) = 0 from rfl] at g1
      have hh : ls[0]'(by omega) = ls.headD 0 := by
        match ls, hln, h1l with
        | x :: r, _, _ => rfl
        | [], h, h' => rw [h'] at h; cases h
      rw [hh] at g2
      cases hp : isS t.n [112, 114, 101] with
      | true =>
        rw [if_pos ⟨k6, rfl⟩]
        by_cases hz : ls.headD 0 = 0
        · rw [if_pos hz]
          have hb : (ls.headD 0 != 0) = false := by rw [bne_eq_false_iff_eq]; exact hz
          refine cw0_ret fn16 (c := c16) rfl rfl rfl rfl ?_
          simp -implicitDefEqProofs only [c16, aW, ↓aP, makes, Nat.reduceLT, Nat.reduceEqDiff, Nat.reduceAdd, ↓reduceIte, Nat.reduceBEq, core_box, box_tr, List.length_nil, fadr_ptr, L, e0, e1, e3, e6, bin_eqlS, isS_eq, hp, g1, g2, hb]
          rfl
        · rw [if_neg hz]
          have hb : (ls.headD 0 != 0) = true := bne_iff_ne.2 hz
          refine cw0_ret fn16 (c := c16) rfl rfl rfl rfl ?_
          simp -implicitDefEqProofs only [c16, aW, ↓aP, makes, Nat.reduceLT, Nat.reduceEqDiff, Nat.reduceAdd, ↓reduceIte, Nat.reduceBEq, core_box, box_tr, List.length_nil, fadr_ptr, L, e0, e1, e3, e6, bin_eqlS, isS_eq, hp, g1, g2, hb]
          rfl
      | false =>
        rw [if_neg (by simp), if_neg (by omega), if_neg (by omega), if_neg (by omega)]
        refine cw0_ret fn16 (c := c16) rfl rfl rfl rfl ?_
        simp -implicitDefEqProofs only [c16, aW, ↓aP, makes, Nat.reduceLT, Nat.reduceEqDiff, Nat.reduceAdd, ↓reduceIte, Nat.reduceBEq, core_box, box_tr, List.length_nil, fadr_ptr, L, e0, e1, e3, e6, e7, e9, e10, bin_eqlS, isS_eq, hp]
        rfl
    · have e6 : (t.k == 6) = false := beq_eq_false_iff_ne.2 k6
      rw [if_neg (fun h => k6 h.1)]
      by_cases k7 : t.k = 7
      · have e7 : (t.k == 7) = true := by rw [k7]; rfl
        have e9 : (t.k == 9) = false := by rw [k7]; rfl
        have e10 : (t.k == 10) = false := by rw [k7]; rfl
        have h2l := S.two k7
        obtain ⟨a, b, hts⟩ : ∃ a b, t.ts = [a, b] := by
          match h : t.ts, h2l with
          | [a, b], _ => exact ⟨a, b, rfl⟩
        have hg : t.ts[1]? = some b := by rw [hts]; rfl
        have hi := iadr_args (z := t.z) (c := t.c) hg (k := .i64)
        rw [show ((1 : Nat) : Int) = 1 from rfl] at hi
        obtain ⟨c0, g1, g2⟩ := x1.get (i := 0) (by omega)
        obtain ⟨c1, g3, g4⟩ := x1.get (i := 1) (by omega)
        rw [show ((0 : Nat) : Int) = 0 from rfl] at g1
        rw [show ((1 : Nat) : Int) = 1 from rfl] at g3
        have hh : ls[0]'(by omega) = ls.headD 0 := by
          match ls, hln, h2l with
          | x :: r, _, _ => rfl
          | [], h, h' => rw [h'] at h; cases h
        have hh1 : ls[1]'(by omega) = ls.getD 1 0 := by
          rw [List.getD_eq_getElem?_getD, List.getElem?_eq_getElem (by omega)]; rfl
        rw [hh] at g2
        rw [hh1] at g4
        have hp1 : ((t.ts[1]?).map Tr.p).getD 0 = b.p := by rw [hg]; rfl
        cases hf : isS t.n [102, 98, 121] with
        | true =>
          rw [if_pos ⟨k7, rfl⟩, hp1]
          by_cases hz : ls.getD 1 0 = 0
          · rw [if_pos hz]
            have hb : (ls.getD 1 0 != 0) = false := by rw [bne_eq_false_iff_eq]; exact hz
            refine cw0_ret fn16 (c := c16) rfl rfl rfl rfl ?_
            simp -implicitDefEqProofs only [c16, aW, ↓aP, makes, Nat.reduceLT, Nat.reduceEqDiff, Nat.reduceAdd, ↓reduceIte, Nat.reduceBEq, core_box, box_tr, List.length_nil, fadr_ptr, L, e0, e1, e2, e3, e6, e7, bin_eqlS, isS_eq, hf, g1, g2, g3, g4, hb, hi, fadr_cells3]
            rfl
          · rw [if_neg hz]
            have hb : (ls.getD 1 0 != 0) = true := bne_iff_ne.2 hz
            refine cw0_ret fn16 (c := c16) rfl rfl rfl rfl ?_
            simp -implicitDefEqProofs only [c16, aW, ↓aP, makes, Nat.reduceLT, Nat.reduceEqDiff, Nat.reduceAdd, ↓reduceIte, Nat.reduceBEq, core_box, box_tr, List.length_nil, fadr_ptr, L, e0, e1, e2, e3, e6, e7, bin_eqlS, isS_eq, hf, g1, g2, g3, g4, hb, hi, fadr_cells3]
            rfl
        | false =>
          rw [if_neg (by simp)]
          cases hp : isS t.n [45, 62] with
          | true =>
            rw [if_pos ⟨k7, rfl⟩]
            refine cw0_ret fn16 (c := c16) rfl rfl rfl rfl ?_
            simp -implicitDefEqProofs only [c16, aW, ↓aP, makes, Nat.reduceLT, Nat.reduceEqDiff, Nat.reduceAdd, ↓reduceIte, Nat.reduceBEq, core_box, box_tr, List.length_nil, fadr_ptr, L, e0, e1, e2, e3, e6, e7, bin_eqlS, isS_eq, hf, hp, g1, g2]
            rfl
          | false =>
            rw [if_neg (by simp), if_neg (by omega)]
            refine cw0_ret fn16 (c := c16) rfl rfl rfl rfl ?_
            simp -implicitDefEqProofs only [c16, aW, ↓aP, makes, Nat.reduceLT, Nat.reduceEqDiff, Nat.reduceAdd, ↓reduceIte, Nat.reduceBEq, core_box, box_tr, List.length_nil, fadr_ptr, L, e0, e1, e2, e3, e6, e7, e9, e10, bin_eqlS, isS_eq, hf, hp]
            rfl
      · have e7 : (t.k == 7) = false := beq_eq_false_iff_ne.2 k7
        rw [if_neg (fun h => k7 h.1), if_neg (fun h => k7 h.1)]
        have B := badR_loop t S.len ls hln x0 x1 t.ts 0 rfl (Nat.zero_le _)
        rw [show ((0 : Nat) : Int) = 0 from rfl, List.drop_zero] at B
        by_cases k9 : t.k = 9 ∨ t.k = 10
        · rw [if_pos k9]
          have hk : (t.k == 9) = true ∨ ((t.k == 9) = false ∧ (t.k == 10) = true) := by
            rcases k9 with h | h
            · exact .inl (beq_iff_eq.2 h)
            · exact .inr ⟨beq_eq_false_iff_ne.2 (by omega), beq_iff_eq.2 h⟩
          cases hB : bad t.ts ls with
          | ok x =>
            rw [hB] at B
            obtain ⟨i2, B⟩ := B
            have hx : x = 0 := bad_zero t.ts ls x hB
            subst hx
            refine cw0_ret fn16 (c := c16) rfl rfl rfl rfl ?_
            rcases hk with e9 | ⟨e9, e10⟩
            · simp -implicitDefEqProofs only [c16, aW, ↓aP, makes, Nat.reduceLT, Nat.reduceEqDiff, Nat.reduceAdd, ↓reduceIte, Nat.reduceBEq, core_box, box_tr, List.length_nil, fadr_ptr, L, e0, e1, e2, e3, e6, e7, e9, B]
              rfl
            · simp -implicitDefEqProofs only [c16, aW, ↓aP, makes, Nat.reduceLT, Nat.reduceEqDiff, Nat.reduceAdd, ↓reduceIte, Nat.reduceBEq, core_box, box_tr, List.length_nil, fadr_ptr, L, e0, e1, e2, e3, e6, e7, e9, e10, B]
              rfl
          | error q =>
            rw [hB] at B
            simp only at B
            refine cw0_ret fn16 (c := c16) rfl rfl rfl rfl ?_
            rcases hk with e9 | ⟨e9, e10⟩
            · simp -implicitDefEqProofs only [c16, aW, ↓aP, makes, Nat.reduceLT, Nat.reduceEqDiff, Nat.reduceAdd, ↓reduceIte, Nat.reduceBEq, core_box, box_tr, List.length_nil, fadr_ptr, L, e0, e1, e2, e3, e6, e7, e9, B]
              rfl
            · simp -implicitDefEqProofs only [c16, aW, ↓aP, makes, Nat.reduceLT, Nat.reduceEqDiff, Nat.reduceAdd, ↓reduceIte, Nat.reduceBEq, core_box, box_tr, List.length_nil, fadr_ptr, L, e0, e1, e2, e3, e6, e7, e9, e10, B]
              rfl
        · rw [if_neg k9]
          have e9 : (t.k == 9) = false := beq_eq_false_iff_ne.2 fun h => k9 (.inl h)
          have e10 : (t.k == 10) = false := beq_eq_false_iff_ne.2 fun h => k9 (.inr h)
          refine cw0_ret fn16 (c := c16) rfl rfl rfl rfl ?_
          simp -implicitDefEqProofs only [c16, aW, ↓aP, makes, Nat.reduceLT, Nat.reduceEqDiff, Nat.reduceAdd, ↓reduceIte, Nat.reduceBEq, core_box, box_tr, List.length_nil, fadr_ptr, L, e0, e1, e2, e3, e6, e7, e9, e10]
          rfl
theorem callV_tupA {f : FuncId} {t : Tr} {xs : List AV} {H H' : List AO} {id : Nat} (hm : mds f = .pure) (h : cw0 f [.agg t.cells] [] = some (.ret (.tup xs), H')) (ha : xs.all wholeA = true) : callV cw0 mds f [.agg t.cells] H id = some (.val (.tup xs) none) := by
  unfold callV
  rw [hm]
  simp only
  rw [show frzF = 14 + 2 from rfl, mapL_wholeA (by rw [List.all_cons, whole_cells]; rfl)]
  simp only [Option.bind_some]
  rw [h]
  simp only [Option.bind_some]
  rw [frz, show (14 + 1 : Nat) = 13 + 2 from rfl, mapL_wholeA ha]
  rfl
theorem levR_call : ∀ t : Tr, Shp t → ∀ H id, callV cw0 mds 16 [.agg t.cells] H id = some (.val (levR (lev t)) none) := by
  refine Tr.ind fun k n z c ts p ih S H id => ?_
  generalize ht : Tr.mk k n z c ts p = t at *
  have hts : t.ts = ts := by rw [← ht]; rfl
  obtain ⟨H', key⟩ := levR_row t S fun a ha => ih a (hts ▸ ha) (S.sub a ha)
  cases hv : lev t with
  | ok n =>
    rw [hv] at key
    exact callV_tupA rfl key rfl
  | error q =>
    rw [hv] at key
    exact callV_tupA rfl key rfl
theorem level8_call (t : Tr) (S : Sm t) (hd : dep t ≤ 1000) (H : List AO) (id : Nat) : callV cw0 mds 8 [.agg t.cells] H id = some (.val (lvA (levelOut t)) none) := by
  have rc := right15_call t S hd
  have l4 : Ai.load [rowT t] (some 4) (.ptr 0 0) = some (.agg t.cells) := ld4 rfl
  have key : ∃ H', cw0 8 [.agg t.cells] [] = some (.ret (lvA (levelOut t)), H') := by
    unfold levelOut
    refine cw0_ret fn8 (c := c8) rfl rfl rfl rfl ?_
    cases hr : rightT t with
    | false =>
      rw [hr] at rc
      simp -implicitDefEqProofs only [c8, aW, ↓aP, makes, Nat.reduceLT, Nat.reduceEqDiff, Nat.reduceAdd, ↓reduceIte, Nat.reduceBEq, core_box, box_tr, List.length_nil, l4, rc]
      rfl
    | true =>
      rw [hr] at rc
      have lc := levR_call t (shp_right S hr)
      rw [if_pos rfl]
      cases hv : lev t with
      | ok n =>
        rw [hv] at lc
        unfold levR at lc
        simp only at lc
        simp -implicitDefEqProofs only [c8, aW, ↓aP, makes, Nat.reduceLT, Nat.reduceEqDiff, Nat.reduceAdd, ↓reduceIte, Nat.reduceBEq, core_box, box_tr, List.length_nil, l4, rc, lc]
        rfl
      | error q =>
        rw [hv] at lc
        unfold levR at lc
        simp only at lc
        simp -implicitDefEqProofs only [c8, aW, ↓aP, makes, Nat.reduceLT, Nat.reduceEqDiff, Nat.reduceAdd, ↓reduceIte, Nat.reduceBEq, core_box, box_tr, List.length_nil, l4, rc, lc]
        rfl
  obtain ⟨H', key⟩ := key
  exact callV_tupA rfl key rfl
end Go.Proofs.Ytkogkfpiijmbgaa.Ai
namespace Go.Proofs.Ytkogkfpiijmbgaa.Ai
open Go Go.Ai
theorem level3_tells (t : Tr) : ∃ H', cw 3 [.agg t.cells] [] = some (.ret (litB true), H') := by
  obtain ⟨H6, f6⟩ := few6_tells t
  have cf : ∀ H id, callV cw mds 6 [.agg t.cells] H id = some (.val (litB (few t)) none) := fun H id => callV_up (callV_pureA rfl (by rw [List.all_cons, whole_cells]; rfl) f6 rfl)
  have l4 : Ai.load [rowT t] (some 4) (.ptr 0 0) = some (.agg t.cells) := ld4 rfl
  suffices h : retOf ((codeW cw (lookM mtl) mds c3 (initFr 0 [.agg t.cells]) []).bind (fin fn3)) = some (.ret (litB true)) by
    obtain ⟨H', h⟩ := retOf_some h
    exact ⟨H', cw_of fn3 rfl rfl rfl rfl h⟩
  have aw := awake9_call
  cases hf : few t with
  | false =>
    rw [hf] at cf
    simp -implicitDefEqProofs only [c3, aW, ↓aP, makes, Nat.reduceLT, Nat.reduceEqDiff, Nat.reduceAdd, ↓reduceIte, Nat.reduceBEq, core_box, box_tr, List.length_nil, l4, cf]
    rfl
  | true =>
    rw [hf] at cf
    obtain ⟨S, hd⟩ := few_sm1 hf
    have lc := level_call t S (by omega) (fun h => shp_right S h)
    have l8 := fun H id => callV_up (level8_call t S (by omega) H id)
    rw [lv0] at lc
    simp only [lv0] at l8
    simp -implicitDefEqProofs only [c3, aW, ↓aP, makes, Nat.reduceLT, Nat.reduceEqDiff, Nat.reduceAdd, ↓reduceIte, Nat.reduceBEq, core_box, box_tr, List.length_nil, l4, cf, lc, l8, aw, BEq.rfl]
    rfl
end Go.Proofs.Ytkogkfpiijmbgaa.Ai
