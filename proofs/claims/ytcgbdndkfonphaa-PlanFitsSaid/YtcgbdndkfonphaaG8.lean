/- Seat of layers 14 and 15: plan.behind is told. No condition. -/
import Derived.Test.YtcgbdndkfonphaaG7
set_option linter.unusedSimpArgs false
set_option linter.unusedVariables false
set_option linter.unusedSectionVars false
namespace Go.Proofs.Ytcgbdndkfonphaa.Ai
open Go Go.Ai
variable {call : CallF} {mt : MtF} {md : FuncId → Md}
theorem head_row {r : List Int} (h : r ≠ []) : iadr 1 (rowC r none) (litI .i64 0) = some (.ip [litI .i64 (r.headD 0)]) := by
  have := iadr_row r none 0
  cases r with
  | nil => exact absurd rfl h
  | cons x r => simpa using this
theorem load_ip1 (H : List AO) (a : AV) : Ai.load H none (.ip [a]) = some a := rfl
theorem bh3_loop (ops : List COpV) (hn : ops.length ≤ 100) (ha : ∀ o ∈ ops, isVS o = true → o.args ≠ []) (d : List Obj1) (v72 v73 v74 : AV) : ∀ (k i : Nat) (A : AV) (l : List Int) (o : List Obj1) (H : List AO), k + i = ops.length → l.length + 2 * k ≤ 900000 → SlX A l o → Own H (o ++ d) →
    ∃ A' o' H', loopW (codeW cw (lookM mtl) mds c55l3) [3, 72, 73, 74, 84, 85, 86] [(3, A), (72, v72), (73, v73), (74, v74), (84, copsA ops), (85, litI .i64 ops.length), (86, litI .i64 i)] H =
      some (.exit 8, [(3, A'), (72, v72), (73, v73), (74, v74), (84, copsA ops), (85, litI .i64 ops.length), (86, litI .i64 ops.length), (87, litB false)], H') ∧ SlX A' (l ++ (ops.drop i).flatMap opL) o' ∧ Own H' (o' ++ d)
  | 0, i, A, l, o, H, h, hl, S, O => by
    have hi : i = ops.length := by omega
    subst hi
    refine ⟨A, o, H, loopW_out ?_ (by simp), by rw [List.drop_length]; simpa using S, O⟩
    simp -implicitDefEqProofs only [c55l3, aW, ↓aP, makes, Nat.reduceLT, Nat.reduceEqDiff, Nat.reduceAdd, Int.lt_irrefl]
  | k + 1, i, A, l, o, H, h, hl, S, O => by
    have hi : i < ops.length := by omega
    have hg : ops[i]? = some ops[i] := List.getElem?_eq_getElem hi
    have hlt : (i : Int) < ops.length := by omega
    have haa := ha _ (List.getElem_mem hi)
    generalize hx : ops[i] = m at hg haa
    have hA := load_ipA (H := H) (show (COpV.cs m).length = 2 from rfl)
    have O1 := own_newM O m.cs 94
    have L0 : Ai.load (H ++ [.row m.cs 94]) none (.ptr H.length 0) = some (litS m.op) := own_load O1 (cs := m.cs) (t := 94) (by simp) rfl
    have L1 : Ai.load (H ++ [.row m.cs 94]) none (.ptr H.length 1) = some (rowC m.args none) := own_load O1 (cs := m.cs) (t := 94) (by simp) rfl
    have hw := wrap1 (show i < 4611686018427387904 by omega)
    rw [List.drop_eq_getElem_cons hi, List.flatMap_cons, hx, ← List.append_assoc]
    cases hv : isVS m with
    | false =>
      obtain ⟨A', o', H', L, S', O'⟩ := bh3_loop ops hn ha d v72 v73 v74 k (i + 1) A l o _ (by omega) (by omega) S (own_drop O1)
      refine ⟨A', o', H', loopW_round ?_ L, by rw [show opL m = [] by simp [opL, hv], List.append_nil]; exact S', O'⟩
      unfold isVS at hv
      rw [Bool.or_eq_false_iff] at hv
      simp -implicitDefEqProofs only [c55l3, aW, ↓aP, makes, Nat.reduceLT, Nat.reduceEqDiff, Nat.reduceAdd, hlt, iadr_cops, hg, hA, cop_st, fadr_ptr, Nat.zero_add, Nat.add_zero, L0, bin_isS, hv.1, hv.2, hw]
    | true =>
      obtain ⟨A2, o2, H2, ap, S2, O2⟩ := S.append O1 (RowA.of [m.args.headD 0] (some 1)) (by simp; omega)
      obtain ⟨A', o', H', L, S', O'⟩ := bh3_loop ops hn ha d v72 v73 v74 k (i + 1) A2 _ o2 _ (by omega) (by simp; omega) S2 (own_drop O2)
      refine ⟨A', o', H', loopW_round ?_ L, by rw [show opL m = [m.args.headD 0] by simp [opL, hv]]; exact S', O'⟩
      have hh := head_row (haa hv)
      unfold isVS at hv
      cases h1 : isS m.op [118, 97, 114] with
      | true => simp -implicitDefEqProofs only [c55l3, aW, ↓aP, makes, Nat.reduceLT, Nat.reduceEqDiff, Nat.reduceAdd, hlt, iadr_cops, hg, hA, cop_st, fadr_ptr, Nat.zero_add, Nat.add_zero, L0, L1, hh, load_ip1, core_bsl, bslV_1r, ap.opS, bin_isS, h1, hw]
      | false =>
        rw [h1, Bool.false_or] at hv
        simp -implicitDefEqProofs only [c55l3, aW, ↓aP, makes, Nat.reduceLT, Nat.reduceEqDiff, Nat.reduceAdd, hlt, iadr_cops, hg, hA, cop_st, fadr_ptr, Nat.zero_add, Nat.add_zero, L0, L1, hh, load_ip1, core_bsl, bslV_1r, ap.opS, bin_isS, h1, hv, hw]
theorem opL_short (ops : List COpV) : (ops.flatMap opL).length ≤ ops.length := by
  induction ops with
  | nil => exact Nat.le_refl _
  | cons o r ih =>
    rw [List.flatMap_cons, List.length_append, List.length_cons]
    have : (opL o).length ≤ 1 := by unfold opL; cases isVS o <;> simp
    omega
theorem bh4_loop (f : FlatV) (hm : ∀ m ∈ f.cross, m.ops.length ≤ 100) (hv : ∀ m ∈ f.cross, ∀ o ∈ m.ops, isVS o = true → o.args ≠ []) (hn : f.cross.length ≤ 100) (d : List Obj1) : ∀ (k i : Nat) (A : AV) (l : List Int) (o : List Obj1) (H : List AO), k + i = f.cross.length → l.length + 1000 * k ≤ 800000 → SlX A l o → Own H (o ++ d) →
    ∃ A' o' H', loopW (codeW cw (lookM mtl) mds c55l4) [3, 72, 73, 74] [(3, A), (72, crossA f.cross), (73, litI .i64 f.cross.length), (74, litI .i64 i)] H =
      some (.exit 6, [(3, A'), (72, crossA f.cross), (73, litI .i64 f.cross.length), (74, litI .i64 f.cross.length), (75, litB false)], H') ∧ SlX A' (l ++ (f.cross.drop i).flatMap crossL) o' ∧ Own H' (o' ++ d)
  | 0, i, A, l, o, H, h, hl, S, O => by
    have hi : i = f.cross.length := by omega
    subst hi
    refine ⟨A, o, H, loopW_out ?_ (by simp), by rw [List.drop_length]; simpa using S, O⟩
    simp -implicitDefEqProofs only [c55l4, aW, ↓aP, makes, Nat.reduceLT, Nat.reduceEqDiff, Nat.reduceAdd, Int.lt_irrefl]
  | k + 1, i, A, l, o, H, h, hl, S, O => by
    have hi : i < f.cross.length := by omega
    have hg : f.cross[i]? = some f.cross[i] := List.getElem?_eq_getElem hi
    have hlt : (i : Int) < f.cross.length := by omega
    have hmm := hm _ (List.getElem_mem hi)
    have hvv := hv _ (List.getElem_mem hi)
    generalize hx : f.cross[i] = m at hg hmm hvv
    have hA := load_ipA (H := H) (show (CrossV.cs m).length = 2 from rfl)
    have O1 := own_newM O m.cs 45
    obtain ⟨A2, o2, H2, ap, S2, O2⟩ := S.append O1 (RowA.of [m.guard] (some 1)) (by simp; omega)
    have L0 : Ai.load (H ++ [.row m.cs 45]) none (.ptr H.length 0) = some (litI .i64 m.guard) := own_load O1 (cs := m.cs) (t := 45) (by simp) rfl
    have L12 : Ai.load H2 none (.ptr H.length 1) = some (copsA m.ops) := own_load O2 (cs := m.cs) (t := 45) (by simp) rfl
    obtain ⟨A4, o4, H4, Ls, S4, O4⟩ := bh3_loop m.ops hmm hvv d (crossA f.cross) (litI .i64 f.cross.length) (litI .i64 i) m.ops.length 0 A2 _ o2 H2 (by omega) (by simp; omega) S2 (own_drop O2)
    rw [show ((0 : Nat) : Int) = 0 from rfl] at Ls
    rw [List.drop_zero] at S4
    have hsl := opL_short m.ops
    obtain ⟨A', o', H', L, S', O'⟩ := bh4_loop f hm hv hn d k (i + 1) A4 _ o4 H4 (by omega) (by simp at hsl ⊢; omega) S4 O4
    refine ⟨A', o', H', loopW_round ?_ L, ?_, O'⟩
    · simp -implicitDefEqProofs only [c55l4, aW, ↓aP, makes, Nat.reduceLT, Nat.reduceEqDiff, Nat.reduceAdd, hlt, iadr_cross, hg, hA, cross_st, fadr_ptr, Nat.zero_add, Nat.add_zero, L0, L12, lenV_cops, core_bsl, bslV_1r, ap.opS, Ls, wrap1 (show i < 4611686018427387904 by omega)]
    · rw [List.drop_eq_getElem_cons hi, List.flatMap_cons, hx, crossL]
      simp only [List.append_assoc, List.singleton_append, List.cons_append] at S' ⊢
      exact S'
theorem opsF_VS (f : FlatV) (n : Nat) : ∀ (l : List COpV) (i : Nat), opsF f n i l = true → ∀ o ∈ l, isVS o = true → ∃ x r, o.args = x :: r ∧ 0 ≤ x ∧ x < (n : Int)
  | [], _, _ => by simp
  | o :: l, i, h => by
    rw [opsF, Bool.and_eq_true] at h
    intro o' ho hv
    rcases List.mem_cons.1 ho with rfl | ho
    · have h := h.1
      unfold opOk at h
      cases h1 : isS o'.op [118, 97, 114] with
      | true =>
        rw [h1, cond_true, Bool.and_eq_true] at h
        obtain ⟨h2, h3⟩ := h
        unfold lenI at h2
        cases ha : o'.args with
        | nil => rw [ha] at h2; cases h2
        | cons x r => rw [ha] at h3; exact ⟨x, r, rfl, within_iff.1 h3 x (List.mem_cons_self ..)⟩
      | false =>
        unfold isVS at hv
        rw [h1, Bool.false_or] at hv
        have e1 : isS o'.op [99, 111, 110, 116] = false := isS_ne hv rfl
        have e2 : isS o'.op [110, 101, 103] = false := isS_ne hv rfl
        have e3 : isS o'.op [43] = false := isS_ne hv rfl
        have e4 : isS o'.op [45] = false := isS_ne hv rfl
        have e5 : isS o'.op [47] = false := isS_ne hv rfl
        have e6 : isS o'.op [42] = false := isS_ne hv rfl
        rw [h1, e1, e2, e3, e4, e5, e6, hv] at h
        simp only [cond_false, cond_true, Bool.or_self, Bool.and_eq_true] at h
        obtain ⟨⟨h2, h3⟩, _⟩ := h
        unfold lenI at h2
        cases ha : o'.args with
        | nil => rw [ha] at h2; cases h2
        | cons x r => rw [ha] at h3; exact ⟨x, r, rfl, within_iff.1 h3 x (by simp)⟩
    · exact opsF_VS f n l (i + 1) h.2 o' ho hv
theorem GoodF.vs {f : FlatV} (G : GoodF f) : ∀ m ∈ f.cross, ∀ o ∈ m.ops, isVS o = true → ∃ x r, o.args = x :: r ∧ 0 ≤ x ∧ x < (f.names.length : Int) := by
  intro m hm o ho hv
  have := (G.cross m hm).2
  unfold opsOk at this
  rw [Bool.and_eq_true] at this
  exact opsF_VS f _ m.ops 0 this.1 o ho hv
def behF (f : FlatV) : List Int := (endL f).filter fun x => !decide (x < 0)
theorem lt79_tells (x : Int) : cw 79 [litI .i64 x] [] = some (.ret (litB (decide (x < 0))), []) := by
  refine cw_of fn79 (c := c79) rfl rfl rfl rfl ?_
  simp -implicitDefEqProofs only [c79, aW, ↓aP, makes, Nat.reduceLT, Nat.reduceEqDiff, Nat.reduceAdd]
  rfl
theorem lt79_call (x : Int) (H : List AO) (id : Nat) : callV cw mds 79 [litI .i64 x] H id = some (.val (litB (decide (x < 0))) none) := callV_pure rfl rfl (lt79_tells x) rfl
theorem del79_nil (e : Nat) (H : List AO) (id : Nat) : callV cw mds 76 [.sl e [] (some 0), .fn (.func 79) [] []] H id = some (.wr (.sl e [] (some 0)) H) := by
  have hf : ∀ id, callV cw mds 34 [.sl e [] (some 0), .fn (.func 79) [] []] H id = some (.wr (litI .i64 (-1)) H) := fun id =>
    callV_same rfl (index34p_tells (.sl e [] (some 0)) [] (fun x => decide (x < 0)) (.fn (.func 79) [] []) H ⟨rfl, fun j x h => by cases h⟩ (fun x id => (lt79_call x H id : fnV cw mds (.fn (.func 79) [] []) [litI .i64 x] H id = _)) (by simp)) rfl
  refine callV_same rfl (cw_of fn76 (c := c76) rfl rfl rfl rfl ?_) rfl
  simp -implicitDefEqProofs only [c76, aW, ↓aP, makes, Nat.reduceLT, Nat.reduceEqDiff, Nat.reduceAdd, hf]
  rfl
theorem callV_frz1 {f : FuncId} {args : List AV} {H : List AO} {id : Nat} {A : AV} {l : List Int} {o : List Obj1} {H' : List AO} (hm : mds f = .pure) (hw : args.all wholeA = true) (h : cw f args [] = some (.ret A, H')) (S : SlX A l o) (O : Own H' o) :
    ∃ B, RowA B l ∧ callV cw mds f args H id = some (.val B none) ∧ ∀ H2 id2, callV cw mds f args H2 id2 = some (.val B none) := by
  rcases S with ⟨e, rfl, rfl, rfl⟩ | ⟨p, z, hz, rfl, rfl⟩
  · have e0 : ∀ H2 id2, callV cw mds f args H2 id2 = some (.val (.sl e [] (some 0)) none) := fun H2 id2 => callV_frz hm hw h (ids := []) rfl
    exact ⟨_, RowA.nilE e (some 0), e0 _ _, e0⟩
  · have hp := O.head
    have fz := Ord.frz_ints (H := H') (k := 14) (c := none) hp hz rfl
    have e0 : ∀ H2 id2, callV cw mds f args H2 id2 = some (.val (rowC l none) none) := fun H2 id2 => callV_frz hm hw h fz
    exact ⟨_, RowA.of l none, e0 _ _, e0⟩
theorem endL_len (f : FlatV) (F : FitsS f) : (endL f).length ≤ 1000000 := by
  have e1 := F.mems; have e2 := F.conts; have e3 := F.cross; have e4 := F.outs; have e5 := F.again
  have k1 : (f.mems.flatMap memL).length ≤ 100 * f.mems.length := by
    have hm := F.mres
    generalize f.mems = ms at hm
    induction ms with
    | nil => simp
    | cons m r ih =>
      have h1 := hm m (List.mem_cons_self ..)
      have h2 := ih fun x hx => hm x (List.mem_cons_of_mem _ hx)
      simp only [List.flatMap_cons, List.length_append, memL, List.length_cons, List.length_nil] at h2 ⊢; omega
  have k2 : (f.conts.flatMap contL).length ≤ 300 * f.conts.length := by
    have hm := F.cres
    have hs := F.slopes
    generalize f.conts = ms at hm hs
    induction ms with
    | nil => simp
    | cons m r ih =>
      have h1 := hm m (List.mem_cons_self ..)
      have h3 := hs m (List.mem_cons_self ..)
      have h2 := ih (fun x hx => hm x (List.mem_cons_of_mem _ hx)) (fun x hx => hs x (List.mem_cons_of_mem _ hx))
      have hsl : (m.slopes.flatMap slopeL).length = 2 * m.slopes.length := by
        clear h1 h3 h2 hm hs ih
        induction m.slopes with
        | nil => rfl
        | cons s r ih => simp [slopeL] at ih ⊢; omega
      simp only [List.flatMap_cons, List.length_append, contL, List.length_cons, List.length_nil, hsl] at h2 ⊢; omega
  have k3 : (f.cross.flatMap crossL).length ≤ 100 * f.cross.length := by
    have hm := F.ops
    generalize f.cross = ms at hm
    induction ms with
    | nil => simp
    | cons m r ih =>
      have h1 := hm m (List.mem_cons_self ..)
      have h2 := ih fun x hx => hm x (List.mem_cons_of_mem _ hx)
      have := opL_short m.ops
      simp only [List.flatMap_cons, List.length_append, crossL, List.length_cons] at h2 ⊢; omega
  unfold endL
  simp only [List.length_append]; omega
theorem behind_call (f : FlatV) (F : FitsS f) (hG : goodOk f = true) : ∃ B, RowA B (behF f) ∧ ∀ H id, callV cw mds 55 [flatA f] H id = some (.val B none) := by
  have G := goodF_of hG
  have e1 := F.mems; have e2 := F.conts; have e3 := F.cross; have e4 := F.outs; have e5 := F.again
  have b2 := bslV_r2 [.row f.cs 29] (.sl 0 [] (some 0)) (RowA.of f.outs none) (RowA.of f.again none)
  have O0 : Own [AO.row f.cs 29] [(0, f.cs, 29)] := ⟨by simp, fun x hx => by simp only [List.mem_cons, List.not_mem_nil, or_false] at hx; subst hx; rfl⟩
  have l2 : Ai.load [.row f.cs 29] none (.ptr 0 2) = some (rowC f.outs none) := rfl
  have l7 : Ai.load [.row f.cs 29] none (.ptr 0 7) = some (rowC f.again none) := rfl
  obtain ⟨A, o, H1, ap, S, O⟩ := concat_call [(rowC f.outs none, f.outs), (rowC f.again none, f.again)] (some 2) (fun p hp => by
    simp only [List.mem_cons, List.not_mem_nil, or_false] at hp
    rcases hp with rfl | rfl
    · exact RowA.of _ _
    · exact RowA.of _ _) (by simp) (by simp [Rows.cat]; omega) [.row f.cs 29] _ O0
  rw [show catA [(rowC f.outs none, f.outs), (rowC f.again none, f.again)] (some 2) = .sl 1 [[rowC f.outs none], [rowC f.again none]] (some 2) from rfl] at ap
  rw [show Rows.cat [(rowC f.outs none, f.outs), (rowC f.again none, f.again)] = f.outs ++ f.again by simp [Rows.cat]] at S
  obtain ⟨A1, o1, H2, L1, S1, O1⟩ := bh0_loop f (fun m hm => by have := F.mres m hm; omega) (by omega) [(0, f.cs, 29)] f.mems.length 0 A _ o H1 (by omega) (by simp; omega) S O
  obtain ⟨A2, o2, H3, L2, S2, O2⟩ := bh2_loop f (fun m hm => by have := F.cres m hm; omega) (fun m hm => by have := F.slopes m hm; omega) (by omega) [(0, f.cs, 29)] f.conts.length 0 A1 _ o1 H2 (by omega) (by
    have : (f.mems.flatMap memL).length ≤ 100 * f.mems.length := by
      have hm := F.mres
      generalize f.mems = ms at hm
      induction ms with
      | nil => simp
      | cons m r ih =>
        have h1 := hm m (List.mem_cons_self ..)
        have h2 := ih fun x hx => hm x (List.mem_cons_of_mem _ hx)
        simp only [List.flatMap_cons, List.length_append, memL, List.length_cons, List.length_nil] at h2 ⊢; omega
    rw [List.drop_zero, List.length_append, List.length_append]; omega) S1 O1
  obtain ⟨A3, o3, H4, L3, S3, O3⟩ := bh4_loop f (fun m hm => by have := F.ops m hm; omega) (fun m hm o ho hv => by obtain ⟨x, r, e, _⟩ := G.vs m hm o ho hv; rw [e]; simp) (by omega) [(0, f.cs, 29)] f.cross.length 0 A2 _ o2 H3 (by omega) (by
    have k1 : (f.mems.flatMap memL).length ≤ 100 * f.mems.length := by
      have hm := F.mres
      generalize f.mems = ms at hm
      induction ms with
      | nil => simp
      | cons m r ih =>
        have h1 := hm m (List.mem_cons_self ..)
        have h2 := ih fun x hx => hm x (List.mem_cons_of_mem _ hx)
        simp only [List.flatMap_cons, List.length_append, memL, List.length_cons, List.length_nil] at h2 ⊢; omega
    have k2 : (f.conts.flatMap contL).length ≤ 300 * f.conts.length := by
      have hm := F.cres
      have hs := F.slopes
      generalize f.conts = ms at hm hs
      induction ms with
      | nil => simp
      | cons m r ih =>
        have h1 := hm m (List.mem_cons_self ..)
        have h3 := hs m (List.mem_cons_self ..)
        have h2 := ih (fun x hx => hm x (List.mem_cons_of_mem _ hx)) (fun x hx => hs x (List.mem_cons_of_mem _ hx))
        have hsl : (m.slopes.flatMap slopeL).length = 2 * m.slopes.length := by
          clear h1 h3 h2 hm hs ih
          induction m.slopes with
          | nil => rfl
          | cons s r ih => simp [slopeL] at ih ⊢; omega
        simp only [List.flatMap_cons, List.length_append, contL, List.length_cons, List.length_nil, hsl] at h2 ⊢; omega
    rw [List.drop_zero, List.drop_zero, List.length_append, List.length_append, List.length_append]; omega) S2 O2
  rw [show ((0 : Nat) : Int) = 0 from rfl] at L1 L2 L3
  rw [List.drop_zero, List.drop_zero, List.drop_zero] at S3
  change SlX A3 (endL f) o3 at S3
  have hel := endL_len f F
  have l4 : Ai.load H1 none (.ptr 0 4) = some (memsA f.mems) := own_load O (cs := f.cs) (t := 29) (by simp) rfl
  have l5 : Ai.load H2 none (.ptr 0 5) = some (contsA f.conts) := own_load O1 (cs := f.cs) (t := 29) (by simp) rfl
  have l6 : Ai.load H3 none (.ptr 0 6) = some (crossA f.cross) := own_load O2 (cs := f.cs) (t := 29) (by simp) rfl
  have fin : ∃ A5 o5 H5, (∀ id, callV cw mds 76 [A3, .fn (.func 79) [] []] H4 id = some (.wr A5 H5)) ∧ SlX A5 (behF f) o5 ∧ Own H5 o5 := by
    rcases S3 with ⟨e, rfl, h0, rfl⟩ | ⟨p, z, hz, rfl, rfl⟩
    · refine ⟨_, [], H4, fun id => del79_nil e H4 id, ?_, Own.nil⟩
      unfold behF; rw [h0]; exact SlX.nil e
    · obtain ⟨z', H5, h, h1, h2, h3⟩ := del_tells (p := fun x => decide (x < 0)) (fv := .fn (.func 79) [] []) hz (fun x H id => (lt79_call x H id : fnV cw mds (.fn (.func 79) [] []) [litI .i64 x] H id = _)) hel (by rw [List.singleton_append] at O3; exact O3)
      exact ⟨_, _, H5, fun id => callV_same rfl h h2, SlX.own p _ z' h1, h3.sub (by simp)⟩
  obtain ⟨A5, o5, H5, cD, S5, O5⟩ := fin
  simp only [List.length_cons, List.length_nil, Nat.zero_add] at ap
  have told : cw 55 [flatA f] [] = some (.ret A5, H5) := by
    refine cw_of fn55 (c := c55) rfl rfl rfl rfl ?_
    simp -implicitDefEqProofs only [c55, aW, ↓aP, makes, Nat.reduceLT, Nat.reduceEqDiff, Nat.reduceAdd, core_box, flat_f, List.length_nil, List.length_cons, fadr_ptr, Nat.zero_add, l2, l7, core_bsl, b2, ap.opS, l4, lenV_mems, L1, l5, lenV_conts, L2, l6, lenV_cross, L3, cD]
    rfl
  obtain ⟨B, h1, _, h2⟩ := callV_frz1 (H := []) (id := 0) rfl rfl told S5 O5
  exact ⟨B, h1, h2⟩
end Go.Proofs.Ytcgbdndkfonphaa.Ai
namespace Go.Proofs.Ytcgbdndkfonphaa.Ai
open Go Go.Ai
variable {call : CallF} {mt : MtF} {md : FuncId → Md}
theorem setN_rows (g : Eqn → List Int) (P : List Int → Prop) : ∀ (l : List Eqn) (rows : List (List Int)), (∀ r ∈ rows, P r) → (∀ q ∈ l, P (g q)) → ∀ r ∈ setN g rows l, P r
  | [], rows, h, _ => h
  | q :: l, rows, h, hq => by
    rw [setN]
    refine setN_rows g P l _ (fun r hr => ?_) fun q' hq' => hq q' (List.mem_cons_of_mem _ hq')
    rcases List.mem_or_eq_of_mem_set hr with hr | rfl
    · exact h r hr
    · exact hq q (List.mem_cons_self ..)
theorem begF_len (f : FlatV) (F : FitsS f) (q : Eqn) (K : KOk f q) : (begF f q).length ≤ 20 := by
  unfold begF
  cases hm : isS q.op [109, 101, 109] with
  | true =>
    obtain ⟨m, h1, _, h3⟩ := iadr_memsI (K.m hm)
    rw [cond_true, h3]; exact F.mres m (List.mem_of_getElem? h1)
  | false =>
    cases hk : isS q.op [99, 111, 110, 116] with
    | true =>
      obtain ⟨m, h1, _, h3⟩ := iadr_contsI (K.k hk)
      rw [cond_false, cond_true, h3]; exact F.cres m (List.mem_of_getElem? h1)
    | false => exact Nat.zero_le _
theorem needC_len (f : FlatV) (F : FitsS f) (q : Eqn) (hq : q ∈ f.eqs) (K : KOk f q) : (needC f q).length ≤ 51 := by
  unfold needC
  have h1 := List.length_filter_le (fun x => !decide (x < 0)) (compI' (sortI (q.args ++ begF f q ++ [q.guard])))
  have h2 := compI_len (sortI (q.args ++ begF f q ++ [q.guard]))
  rw [sortI_len] at h2
  have h3 := F.args q hq
  have h4 := begF_len f F q K
  simp only [List.length_append, List.length_cons, List.length_nil] at h2
  omega
theorem NC_few (f : FlatV) (F : FitsS f) (G : GoodF f) : Ord.fewG (NC f) = true := by
  simp only [Ord.fewG, Bool.and_eq_true, decide_eq_true_eq, List.all_eq_true]
  have e := F.eqs
  have := G.len
  refine ⟨by rw [NC_len]; omega, ?_⟩
  refine setN_rows (needC f) (fun r => r.length ≤ 60) f.eqs _ (fun r hr => by rw [List.eq_of_mem_replicate hr]; simp) fun q hq => ?_
  have := needC_len f F q hq (G.kok q hq)
  omega
def ordL (g : List (List Int)) : List Int := if Ord.okL g = true then Ord.outL g else []
theorem slrow {A : AV} {l : List Int} {o : List Obj1} (h : Ord.Sl A l o) : SlX A l o := by
  rcases h with ⟨rfl, rfl, rfl⟩ | ⟨p, z, hz, rfl, rfl⟩
  · exact SlX.nil 0
  · exact SlX.own p l z hz
theorem slx_frz {A : AV} {l : List Int} {o : List Obj1} {H : List AO} {k : Nat} (S : SlX A l o) (O : ∀ x ∈ o, H[x.1]? = some (.row x.2.1 x.2.2)) : ∃ B ids, frz H (k + 2) A = some (B, ids) ∧ RowA B l := by
  rcases S with ⟨e, rfl, rfl, rfl⟩ | ⟨p, z, hz, rfl, rfl⟩
  · exact ⟨_, [], rfl, RowA.nilE e (some 0)⟩
  · exact ⟨_, _, Ord.frz_ints (H := H) (k := k) (c := none) (O (p, cellsI l ++ z, 3) (by simp)) hz rfl, RowA.of l none⟩
theorem gorder_call (cs : Nat → Option Nat) (cc : Option Nat) (g : List (List Int)) (hf : Ord.fewG g = true) : ∃ B, RowA B (ordL g) ∧ ∀ H id, callV cw mds 53 [Ord.gX cs cc g] H id = some (.val (.tup [B, litB (Ord.okL g)]) none) := by
  obtain ⟨A, o, d, H', h, S, O⟩ := Ord.order_tells (cs := cs) (cc := cc) g hf
  obtain ⟨B, ids, fz, hB⟩ := slx_frz (H := H') (k := 13) (slrow S) (fun x hx => O.get x (List.mem_append_left _ hx))
  refine ⟨B, hB, fun H id => callV_frz rfl rfl h (ids := ids ++ ([] ++ [])) ?_⟩
  rw [show frzF = 13 + 2 + 1 from rfl, frz]
  simp only [mapL, fz, Option.bind_some]
  rfl
theorem callV_tup {f : FuncId} {args : List AV} {H H' : List AO} {id : Nat} {B : AV} {l : List Int} {v : Value} (hm : mds f = .pure) (hw : args.all wholeA = true) (h : cw f args [] = some (.ret (.tup [B, .lit v]), H')) (hB : RowA B l) : callV cw mds f args H id = some (.val (.tup [B, .lit v]) none) := by
  obtain ⟨e, xs, c, rfl⟩ := hB.cases
  exact callV_frz hm hw h (ids := []) rfl
def errA : Bool → Bool → Int
  | false, _ => 1
  | true, false => 140
  | true, true => 0
theorem corder_call (f : FlatV) (F : FitsS f) : ∃ B, RowA B (if goodOk f = true then ordL (NC f) else []) ∧ ∀ H id, callV cw mds 32 [flatA f] H id = some (.val (.tup [B, litI .i64 (errA (goodOk f) (Ord.okL (NC f)))]) none) := by
  have hgc : ∀ H id, callV cw mds 37 [.agg f.cs] H id = some (.val (litB (goodOk f)) none) := fun H id => good_call f F.fits H id
  have lA : Ai.load [.row f.cs 29] (some 8) (.ptr 0 0) = some (.agg f.cs) := load_agg rfl rfl
  cases hG : goodOk f with
  | false =>
    rw [hG] at hgc
    refine ⟨_, RowA.nil, fun H id => callV_tup rfl rfl (H' := [.row f.cs 29]) ?_ RowA.nil⟩
    refine cw_of fn32 (c := c32) rfl rfl rfl rfl ?_
    simp -implicitDefEqProofs only [c32, aW, ↓aP, makes, Nat.reduceLT, Nat.reduceEqDiff, Nat.reduceAdd, core_box, flat_f, List.length_nil, lA, hgc]
    rfl
  | true =>
    rw [hG] at hgc
    have hN : ∀ H id, callV cw mds 54 [.agg f.cs] H id = some (.val (ncA f) none) := needs54_call f F hG
    obtain ⟨B, hB, hO⟩ := gorder_call (fun _ => none) (some f.names.length) (NC f) (NC_few f F (goodF_of hG))
    rw [if_pos rfl]
    cases hk : Ord.okL (NC f) with
    | false =>
      rw [hk] at hO
      refine ⟨_, by rw [show ordL (NC f) = [] by simp [ordL, hk]]; exact RowA.nil, fun H id => callV_tup rfl rfl (H' := [.row f.cs 29]) ?_ RowA.nil⟩
      refine cw_of fn32 (c := c32) rfl rfl rfl rfl ?_
      simp -implicitDefEqProofs only [c32, aW, ↓aP, makes, Nat.reduceLT, Nat.reduceEqDiff, Nat.reduceAdd, core_box, flat_f, List.length_nil, lA, hgc, hN, hO]
      rfl
    | true =>
      rw [hk] at hO
      refine ⟨B, hB, fun H id => callV_tup rfl rfl (H' := [.row f.cs 29]) ?_ hB⟩
      refine cw_of fn32 (c := c32) rfl rfl rfl rfl ?_
      simp -implicitDefEqProofs only [c32, aW, ↓aP, makes, Nat.reduceLT, Nat.reduceEqDiff, Nat.reduceAdd, core_box, flat_f, List.length_nil, lA, hgc, hN, hO]
      rfl
end Go.Proofs.Ytcgbdndkfonphaa.Ai
namespace Go.Proofs.Ytcgbdndkfonphaa.Ai
open Go Go.Ai
variable {call : CallF} {mt : MtF} {md : FuncId → Md}
theorem core_maxi2 {H : List AO} {id : Nat} {fr : Fr} (s t : Nat) (k : IntKind) (a b : Int) (h1 : get fr s = litI k a) (h2 : get fr t = litI k b) : core call mt md H id (.maxi [.s s, .s t]) fr = some (.val (litI k (max a b)) none) := by
  simp only [core, List.map_cons, List.map_nil, ev, h1, h2]
  simp only [litI, foldI, List.foldl_cons, List.foldl_nil, foldS, Option.bind_some]
  congr 3
  by_cases h : b > a
  · simp only [h, decide_true, cond_true]; congr 1; omega
  · simp only [h, decide_false, cond_false]; congr 1; omega
def setAll (r : List Int) : Nat → List Int → List Int
  | _, [] => r
  | i, v :: l => setAll (r.set v.toNat i) (i + 1) l
theorem setAll_len : ∀ (l : List Int) (r : List Int) (i : Nat), (setAll r i l).length = r.length
  | [], _, _ => rfl
  | v :: l, r, i => by rw [setAll, setAll_len l]; simp
def maxK (fv : Int) : List Int → List Int → List Int
  | last, [] => last
  | last, k :: r => maxK fv (last.set k.toNat (max (last.getD k.toNat 0) fv)) r
theorem maxK_len (fv : Int) : ∀ (r last : List Int), (maxK fv last r).length = last.length
  | [], _ => rfl
  | k :: r, last => by rw [maxK, maxK_len fv r]; simp
def maxV (first : List Int) : Nat → List Int → List (List Int) → List Int
  | _, last, [] => last
  | v, last, row :: g => maxV first (v + 1) (maxK (first.getD v 0) last row) g
theorem maxV_len (first : List Int) : ∀ (g : List (List Int)) (v : Nat) (last : List Int), (maxV first v last g).length = last.length
  | [], _, _ => rfl
  | row :: g, v, last => by rw [maxV, maxV_len first g, maxK_len]
def endK (n : Int) : List Int → List Int → List Int
  | last, [] => last
  | last, v :: r => endK n (last.set v.toNat n) r
theorem endK_len (n : Int) : ∀ (r last : List Int), (endK n last r).length = last.length
  | [], _ => rfl
  | k :: r, last => by rw [endK, endK_len n r]; simp
section
variable {H : List AO} {p a b n : Nat} {first last : List Int} {d : List Obj1}
abbrev lv (p a b n : Nat) (first last : List Int) : List Obj1 := [(a, cellsI first, 3), (b, cellsI last, 3), (p, [.own a 0 n 1 (some n), .own b 0 n 1 (some n)], 76)]
theorem lv_0 (O : Own H (lv p a b n first last ++ d)) : Ai.load H none (.ptr p 0) = some (.own a 0 n 1 (some n)) := own_load O (cs := [.own a 0 n 1 (some n), .own b 0 n 1 (some n)]) (t := 76) (by simp) rfl
theorem lv_1 (O : Own H (lv p a b n first last ++ d)) : Ai.load H none (.ptr p 1) = some (.own b 0 n 1 (some n)) := own_load O (cs := [.own a 0 n 1 (some n), .own b 0 n 1 (some n)]) (t := 76) (by simp) rfl
theorem lv_a (O : Own H (lv p a b n first last ++ d)) {v : Nat} (hv : v < first.length) : Ai.load H none (.ptr a v) = some (litI .i64 (first.getD v 0)) := own_load O (cs := cellsI first) (t := 3) (by simp) (by rw [cellsI_at, Ord.getI hv]; rfl)
theorem lv_b (O : Own H (lv p a b n first last ++ d)) {v : Nat} (hv : v < last.length) : Ai.load H none (.ptr b v) = some (litI .i64 (last.getD v 0)) := own_load O (cs := cellsI last) (t := 3) (by simp) (by rw [cellsI_at, Ord.getI hv]; rfl)
theorem lv_sa (O : Own H (lv p a b n first last ++ d)) {v : Nat} (hv : v < first.length) (x : Int) : ∃ H', storeAt H 1 (.ptr a v) (litI .i64 x) = some H' ∧ Own H' (lv p a b n (first.set v x) last ++ d) := by
  refine ⟨_, store_ptr O.head (by rw [cellsI_len]; omega) rfl rfl, ?_⟩
  have e : (cellsI first).set v (litI .i64 x) = cellsI (first.set v x) := by simp [cellsI]
  rw [e]; exact O.set _ 3
theorem lv_sb (O : Own H (lv p a b n first last ++ d)) {v : Nat} (hv : v < last.length) (x : Int) : ∃ H', storeAt H 1 (.ptr b v) (litI .i64 x) = some H' ∧ Own H' (lv p a b n first (last.set v x) ++ d) := by
  have O0 : Own H ((a, cellsI first, 3) :: (b, cellsI last, 3) :: ((p, [.own a 0 n 1 (some n), .own b 0 n 1 (some n)], 76) :: d)) := O
  have O' : Own H ((b, cellsI last, 3) :: (a, cellsI first, 3) :: ((p, [.own a 0 n 1 (some n), .own b 0 n 1 (some n)], 76) :: d)) := O0.perm (List.Perm.swap ..)
  refine ⟨_, store_ptr O'.head (by rw [cellsI_len]; omega) rfl rfl, ?_⟩
  have e : (cellsI last).set v (litI .i64 x) = cellsI (last.set v x) := by simp [cellsI]
  rw [e]
  have O1 := (O'.set (cellsI (last.set v x)) 3).perm (List.Perm.swap ..)
  exact O1
end
theorem iadr_ownI {r n : Nat} {c : Option Nat} {x : Int} (h0 : 0 ≤ x) (h1 : x < (n : Int)) : iadr 1 (.own r 0 n 1 c) (litI .i64 x) = some (.ptr r x.toNat) := by
  rw [iadr_own, if_pos ⟨h0, h1⟩]; simp
theorem of_loop0 (f2 f4 : AV) (B : AV) (ord : List Int) (hB : RowA B ord) (p a b n : Nat) (d : List Obj1) (hn : ord.length ≤ 1000000) (hr : ∀ x ∈ ord, 0 ≤ x ∧ x < (n : Int)) : ∀ (m i : Nat) (first last : List Int) (H : List AO), m + i = ord.length → first.length = n → last.length = n → Own H (lv p a b n first last ++ d) →
    ∃ H', loopW (codeW cw (lookM mtl) mds c33l0) [1, 2, 4, 5, 21, 22, 23] [(1, B), (2, f2), (4, f4), (5, .ptr p 0), (21, B), (22, litI .i64 ord.length), (23, litI .i64 i)] H =
      some (.exit 0, [(1, B), (2, f2), (4, f4), (5, .ptr p 0), (21, B), (22, litI .i64 ord.length), (23, litI .i64 ord.length), (24, litB false)], H') ∧ Own H' (lv p a b n (setAll first i (ord.drop i)) (setAll last i (ord.drop i)) ++ d)
  | 0, i, first, last, H, h, h1, h2, O => by
    have hi : i = ord.length := by omega
    subst hi
    refine ⟨H, loopW_out ?_ (by simp), by rw [List.drop_length]; exact O⟩
    simp -implicitDefEqProofs only [c33l0, aW, ↓aP, makes, Nat.reduceLT, Nat.reduceEqDiff, Nat.reduceAdd, Int.lt_irrefl]
  | m + 1, i, first, last, H, h, h1, h2, O => by
    have hi : i < ord.length := by omega
    have hg : ord[i]? = some ord[i] := List.getElem?_eq_getElem hi
    have hlt : (i : Int) < ord.length := by omega
    have hx := hr _ (List.getElem_mem hi)
    rw [List.drop_eq_getElem_cons hi, setAll, setAll]
    generalize ord[i] = v at hg hx
    have hvn : v.toNat < n := by omega
    obtain ⟨H1, s1, O1⟩ := lv_sa O (v := v.toNat) (by omega) i
    obtain ⟨H2, s2, O2⟩ := lv_sb O1 (v := v.toNat) (by omega) i
    obtain ⟨H', L, O'⟩ := of_loop0 f2 f4 B ord hB p a b n d hn hr m (i + 1) _ _ H2 (by omega) (by simpa using h1) (by simpa using h2) O2
    refine ⟨H', loopW_round ?_ L, O'⟩
    simp -implicitDefEqProofs only [c33l0, aW, ↓aP, makes, Nat.reduceLT, Nat.reduceEqDiff, Nat.reduceAdd, hlt, hB.iadr hg, fadr_ptr, Nat.zero_add, lv_0 O, lv_1 O, lv_1 O1, lv_1 O2, iadr_ownI hx.1 hx.2, s1, s2, wrap1 (show i < 4611686018427387904 by omega)]
theorem of_loop1 (f1 f2 f4 f40 f41 f42 : AV) (row : List Int) (v : Nat) (p a b n : Nat) (d : List Obj1) (first : List Int) (hf : first.length = n) (hv : v < n) (hn : row.length ≤ 1000000) (hr : ∀ x ∈ row, 0 ≤ x ∧ x < (n : Int)) : ∀ (m i : Nat) (last : List Int) (H : List AO), m + i = row.length → last.length = n → Own H (lv p a b n first last ++ d) →
    ∃ H', loopW (codeW cw (lookM mtl) mds c33l1) [1, 2, 4, 5, 8, 40, 41, 42, 47, 48, 49] [(1, f1), (2, f2), (4, f4), (5, .ptr p 0), (8, litI .i64 v), (40, f40), (41, f41), (42, f42), (47, rowC row none), (48, litI .i64 row.length), (49, litI .i64 i)] H =
      some (.exit 4, [(1, f1), (2, f2), (4, f4), (5, .ptr p 0), (8, litI .i64 v), (40, f40), (41, f41), (42, f42), (47, rowC row none), (48, litI .i64 row.length), (49, litI .i64 row.length), (50, litB false)], H') ∧ Own H' (lv p a b n first (maxK (first.getD v 0) last (row.drop i)) ++ d)
  | 0, i, last, H, h, h2, O => by
    have hi : i = row.length := by omega
    subst hi
    refine ⟨H, loopW_out ?_ (by simp), by rw [List.drop_length]; exact O⟩
    simp -implicitDefEqProofs only [c33l1, aW, ↓aP, makes, Nat.reduceLT, Nat.reduceEqDiff, Nat.reduceAdd, Int.lt_irrefl]
  | m + 1, i, last, H, h, h2, O => by
    have hi : i < row.length := by omega
    have hg : row[i]? = some row[i] := List.getElem?_eq_getElem hi
    have hlt : (i : Int) < row.length := by omega
    have hx := hr _ (List.getElem_mem hi)
    rw [List.drop_eq_getElem_cons hi, maxK]
    generalize row[i] = k at hg hx
    have hkn : k.toNat < n := by omega
    obtain ⟨H1, s1, O1⟩ := lv_sb O (v := k.toNat) (by omega) (max (last.getD k.toNat 0) (first.getD v 0))
    obtain ⟨H', L, O'⟩ := of_loop1 f1 f2 f4 f40 f41 f42 row v p a b n d first hf hv hn hr m (i + 1) _ H1 (by omega) (by simpa using h2) O1
    refine ⟨H', loopW_round ?_ L, O'⟩
    have iv := iadr_ownI (r := a) (n := n) (c := some n) (x := v) (by omega) (by omega)
    rw [Int.toNat_natCast] at iv
    have la := lv_a O (v := v) (by omega)
    have lb := lv_b O (v := k.toNat) (by omega)
    simp -implicitDefEqProofs only [c33l1, aW, ↓aP, makes, Nat.reduceLT, Nat.reduceEqDiff, Nat.reduceAdd, hlt, iadr_row, hg, fadr_ptr, Nat.zero_add, lv_0 O, lv_1 O, iadr_ownI hx.1 hx.2, iv, la, lb, core_maxi2 60 65 .i64 (last.getD k.toNat 0) (first.getD v 0), s1, wrap1 (show i < 4611686018427387904 by omega)]
theorem of_loop2 (f1 f2 f4 : AV) (g : List (List Int)) (cs : Nat → Option Nat) (cc : Option Nat) (hcs : ∀ i, cs i = none) (p a b n : Nat) (d : List Obj1) (first : List Int) (hf : first.length = n) (hgn : g.length = n) (hn : n ≤ 1000000) (hl : ∀ r ∈ g, r.length ≤ 1000000) (hr : ∀ r ∈ g, ∀ x ∈ r, 0 ≤ x ∧ x < (n : Int)) : ∀ (m i : Nat) (last : List Int) (H : List AO), m + i = g.length → last.length = n → Own H (lv p a b n first last ++ d) →
    ∃ H', loopW (codeW cw (lookM mtl) mds c33l2) [1, 2, 4, 5, 40, 41, 42] [(1, f1), (2, f2), (4, f4), (5, .ptr p 0), (40, Ord.gX cs cc g), (41, litI .i64 g.length), (42, litI .i64 i)] H =
      some (.exit 2, [(1, f1), (2, f2), (4, f4), (5, .ptr p 0), (40, Ord.gX cs cc g), (41, litI .i64 g.length), (42, litI .i64 g.length), (43, litB false)], H') ∧ Own H' (lv p a b n first (maxV first i last (g.drop i)) ++ d)
  | 0, i, last, H, h, h2, O => by
    have hi : i = g.length := by omega
    subst hi
    refine ⟨H, loopW_out ?_ (by simp), by rw [List.drop_length]; exact O⟩
    simp -implicitDefEqProofs only [c33l2, aW, ↓aP, makes, Nat.reduceLT, Nat.reduceEqDiff, Nat.reduceAdd, Int.lt_irrefl]
  | m + 1, i, last, H, h, h2, O => by
    have hi : i < g.length := by omega
    have hg : g[i]? = some g[i] := List.getElem?_eq_getElem hi
    have hlt : (i : Int) < g.length := by omega
    have hx := hr _ (List.getElem_mem hi)
    have hll := hl _ (List.getElem_mem hi)
    rw [List.drop_eq_getElem_cons hi, maxV]
    generalize g[i] = row at hg hx hll
    obtain ⟨H1, L1, O1⟩ := of_loop1 f1 f2 f4 (Ord.gX cs cc g) (litI .i64 g.length) (litI .i64 i) row i p a b n d first hf (by omega) hll hx row.length 0 last H (by omega) h2 O
    rw [show ((0 : Nat) : Int) = 0 from rfl] at L1
    rw [List.drop_zero] at O1
    obtain ⟨H', L, O'⟩ := of_loop2 f1 f2 f4 g cs cc hcs p a b n d first hf hgn hn hl hr m (i + 1) _ H1 (by omega) (by rw [maxK_len]; exact h2) O1
    refine ⟨H', loopW_round ?_ L, O'⟩
    simp -implicitDefEqProofs only [c33l2, aW, ↓aP, makes, Nat.reduceLT, Nat.reduceEqDiff, Nat.reduceAdd, hlt, Ord.iadr_gX, hg, hcs, lenV_row, L1, wrap1 (show i < 4611686018427387904 by omega)]
theorem of_loop3 (B B2 f4 : AV) (ord beh : List Int) (hB : RowA B ord) (hB2 : RowA B2 beh) (p a b n : Nat) (d : List Obj1) (first : List Int) (hn : beh.length ≤ 1000000) (hr : ∀ x ∈ beh, 0 ≤ x ∧ x < (n : Int)) : ∀ (m i : Nat) (last : List Int) (H : List AO), m + i = beh.length → last.length = n → Own H (lv p a b n first last ++ d) →
    ∃ H', loopW (codeW cw (lookM mtl) mds c33l3) [1, 4, 5, 71, 72, 73] [(1, B), (4, f4), (5, .ptr p 0), (71, B2), (72, litI .i64 beh.length), (73, litI .i64 i)] H =
      some (.exit 6, [(1, B), (4, f4), (5, .ptr p 0), (71, B2), (72, litI .i64 beh.length), (73, litI .i64 beh.length), (74, litB false)], H') ∧ Own H' (lv p a b n first (endK ord.length last (beh.drop i)) ++ d)
  | 0, i, last, H, h, h2, O => by
    have hi : i = beh.length := by omega
    subst hi
    refine ⟨H, loopW_out ?_ (by simp), by rw [List.drop_length]; exact O⟩
    simp -implicitDefEqProofs only [c33l3, aW, ↓aP, makes, Nat.reduceLT, Nat.reduceEqDiff, Nat.reduceAdd, Int.lt_irrefl]
  | m + 1, i, last, H, h, h2, O => by
    have hi : i < beh.length := by omega
    have hg : beh[i]? = some beh[i] := List.getElem?_eq_getElem hi
    have hlt : (i : Int) < beh.length := by omega
    have hx := hr _ (List.getElem_mem hi)
    rw [List.drop_eq_getElem_cons hi, endK]
    generalize beh[i] = v at hg hx
    obtain ⟨H1, s1, O1⟩ := lv_sb O (v := v.toNat) (by omega) ord.length
    obtain ⟨H', L, O'⟩ := of_loop3 B B2 f4 ord beh hB hB2 p a b n d first hn hr m (i + 1) _ H1 (by omega) (by simpa using h2) O1
    refine ⟨H', loopW_round ?_ L, O'⟩
    simp -implicitDefEqProofs only [c33l3, aW, ↓aP, makes, Nat.reduceLT, Nat.reduceEqDiff, Nat.reduceAdd, hlt, hB2.iadr hg, hB.lenV, fadr_ptr, Nat.zero_add, lv_1 O, iadr_ownI hx.1 hx.2, s1, wrap1 (show i < 4611686018427387904 by omega)]
theorem NC_rng (f : FlatV) (F : FitsS f) (G : GoodF f) : ∀ r ∈ NC f, ∀ x ∈ r, 0 ≤ x ∧ x < (f.names.length : Int) := by
  refine setN_rows (needC f) (fun r => ∀ x ∈ r, 0 ≤ x ∧ x < (f.names.length : Int)) f.eqs _ (fun r hr => by rw [List.eq_of_mem_replicate hr]; simp) fun q hq x hx => ?_
  unfold needC at hx
  rw [List.mem_filter, Ord.mem_compI, Ord.mem_sortI] at hx
  obtain ⟨h1, h2⟩ := hx
  simp only [Bool.not_eq_true', decide_eq_false_iff_not] at h2
  refine ⟨by omega, ?_⟩
  rw [List.mem_append, List.mem_append] at h1
  rcases h1 with (h1 | h1) | h1
  · exact (G.args q hq x h1).2
  · unfold begF at h1
    cases hm : isS q.op [109, 101, 109] with
    | true =>
      obtain ⟨m, k1, _, k3⟩ := iadr_memsI ((G.kok q hq).m hm)
      rw [hm, cond_true, k3] at h1
      exact ((G.mems m (List.mem_of_getElem? k1)).2.2 x h1).2
    | false =>
      cases hk : isS q.op [99, 111, 110, 116] with
      | true =>
        obtain ⟨m, k1, _, k3⟩ := iadr_contsI ((G.kok q hq).k hk)
        rw [hm, hk, cond_false, cond_true, k3] at h1
        exact ((G.conts m (List.mem_of_getElem? k1)).2.2.1 x h1).2
      | false => rw [hm, hk] at h1; cases h1
  · simp only [List.mem_cons, List.not_mem_nil, or_false] at h1
    rw [h1]; exact G.guard q hq
theorem NC_60 (f : FlatV) (F : FitsS f) (G : GoodF f) : ∀ r ∈ NC f, r.length ≤ 60 := by
  have := NC_few f F G
  simp only [Ord.fewG, Bool.and_eq_true, decide_eq_true_eq, List.all_eq_true] at this
  exact this.2
theorem endL_rng (f : FlatV) (G : GoodF f) : ∀ x ∈ endL f, x < (f.names.length : Int) := by
  intro x hx
  simp only [endL, List.mem_append, List.mem_flatMap] at hx
  rcases hx with (((hx | hx) | ⟨m, hm, hx⟩) | ⟨m, hm, hx⟩) | ⟨m, hm, hx⟩
  · exact (G.outs x hx).2
  · exact (G.again x hx).2
  · obtain ⟨h1, h2, h3⟩ := G.mems m hm
    simp only [memL, List.mem_append, List.mem_cons, List.not_mem_nil, or_false] at hx
    rcases hx with (rfl | rfl) | hx
    · exact h1.2
    · exact h2
    · exact (h3 x hx).2
  · obtain ⟨h1, h2, h3, h4⟩ := G.conts m hm
    simp only [contL, List.mem_append, List.mem_cons, List.not_mem_nil, or_false, List.mem_flatMap, slopeL] at hx
    rcases hx with ((rfl | rfl) | hx) | ⟨s, hs, rfl | rfl⟩
    · exact h1.2
    · exact h2
    · exact (h3 x hx).2
    · exact (h4 s hs).2
    · exact (h4 s hs).1.2
  · simp only [crossL, List.mem_cons, List.mem_flatMap] at hx
    rcases hx with rfl | ⟨o, ho, hx⟩
    · exact (G.cross m hm).1
    · unfold opL at hx
      cases hv : isVS o with
      | false => rw [hv] at hx; cases hx
      | true =>
        obtain ⟨y, r, e, h1, h2⟩ := G.vs m hm o ho hv
        rw [hv, e] at hx
        simp only [cond_true, List.headD_cons, List.mem_cons, List.not_mem_nil, or_false] at hx
        rw [hx]; exact h2
theorem behF_rng (f : FlatV) (G : GoodF f) : ∀ x ∈ behF f, 0 ≤ x ∧ x < (f.names.length : Int) := by
  intro x hx
  unfold behF at hx
  rw [List.mem_filter] at hx
  have := hx.2
  simp only [Bool.not_eq_true', decide_eq_false_iff_not] at this
  exact ⟨by omega, endL_rng f G x hx.1⟩
def firstF (ord : List Int) : List Int := setAll (List.replicate ord.length 0) 0 ord
def lastF (f : FlatV) (ord : List Int) : List Int := endK ord.length (maxV (firstF ord) 0 (firstF ord) (NC f)) (behF f)
theorem firstF_len (ord : List Int) : (firstF ord).length = ord.length := by unfold firstF; rw [setAll_len]; simp
theorem lastF_len (f : FlatV) (ord : List Int) : (lastF f ord).length = ord.length := by unfold lastF; rw [endK_len, maxV_len, firstF_len]
theorem of_call (f : FlatV) (F : FitsS f) (hG : goodOk f = true) {B : AV} {ord : List Int} (hB : RowA B ord) (hl : ord.length = f.names.length) (hr : ∀ x ∈ ord, 0 ≤ x ∧ x < (f.names.length : Int)) (H : List AO) (id : Nat) :
    callV cw mds 33 [flatA f, B] H id = some (.val (.agg [rowC (firstF ord) (some ord.length), rowC (lastF f ord) (some ord.length)]) none) := by
  have G := goodF_of hG
  have hnn := F.names
  have hN : ∀ H id, callV cw mds 54 [.agg f.cs] H id = some (.val (ncA f) none) := needs54_call f F hG
  obtain ⟨B2, hB2, hbeh⟩ := behind_call f F hG
  have hbc : ∀ H id, callV cw mds 55 [.agg f.cs] H id = some (.val B2 none) := hbeh
  have hm1 := mksV_ok (id := 4) (e := 1) (bytes := 8) (z := [litI .i64 0]) (t := 3) (n := ord.length) (by omega) (by omega)
  have hm2 := mksV_ok (id := 7) (e := 1) (bytes := 8) (z := [litI .i64 0]) (t := 3) (n := ord.length) (by omega) (by omega)
  rw [reps_one] at hm1 hm2
  have hz : cellsI (List.replicate ord.length 0) = List.replicate ord.length (litI .i64 0) := by simp [cellsI]
  have O : Own ([.row f.cs 29, .row [.sl 0 [] (some 0), .sl 0 [] (some 0)] 76, .dead, .dead, .row (List.replicate ord.length (litI .i64 0)) 3, .dead, .dead, .row (List.replicate ord.length (litI .i64 0)) 3, .dead, .row [.own 4 0 ord.length 1 (some ord.length), .own 7 0 ord.length 1 (some ord.length)] 76] : List AO) (lv 9 4 7 ord.length (List.replicate ord.length 0) (List.replicate ord.length 0) ++ [(0, f.cs, 29), (1, [.sl 0 [] (some 0), .sl 0 [] (some 0)], 76)]) := by
    unfold lv
    rw [hz]
    refine ⟨by simp, fun x hx => ?_⟩
    simp only [List.cons_append, List.nil_append, List.mem_cons, List.not_mem_nil, or_false] at hx
    rcases hx with rfl | rfl | rfl | rfl | rfl <;> rfl
  have hbl : (behF f).length ≤ 1000000 := by
    obtain ⟨B, _, h⟩ := behind_call f F hG
    have : (endL f).length ≤ 1000000 := endL_len f F
    exact Nat.le_trans (List.length_filter_le _ _) this
  obtain ⟨H1, L0, O1⟩ := of_loop0 (.ptr 0 0) (.ptr 1 0) B ord hB 9 4 7 ord.length _ (by omega) (fun x hx => by have := hr x hx; omega) ord.length 0 _ _ _ (by omega) (by simp) (by simp) O
  rw [show ((0 : Nat) : Int) = 0 from rfl] at L0
  rw [List.drop_zero] at O1
  change Own H1 (lv 9 4 7 ord.length (firstF ord) (firstF ord) ++ _) at O1
  obtain ⟨H2, L2, O2⟩ := of_loop2 B (.ptr 0 0) (.ptr 1 0) (NC f) (fun _ => none) (some f.names.length) (fun _ => rfl) 9 4 7 ord.length _ (firstF ord) (firstF_len ord) (by rw [NC_len, hl]) (by omega) (fun r hr => by have := NC_60 f F G r hr; omega) (fun r hr x hx => by have := NC_rng f F G r hr x hx; rw [hl]; exact this) (NC f).length 0 _ H1 (by omega) (firstF_len ord) O1
  rw [show ((0 : Nat) : Int) = 0 from rfl] at L2
  rw [List.drop_zero] at O2
  obtain ⟨H3, L3, O3⟩ := of_loop3 B B2 (.ptr 1 0) ord (behF f) hB hB2 9 4 7 ord.length _ (firstF ord) hbl (fun x hx => by have := behF_rng f G x hx; rw [hl]; exact this) (behF f).length 0 _ H2 (by omega) (by rw [maxV_len, firstF_len]) O2
  rw [show ((0 : Nat) : Int) = 0 from rfl] at L3
  rw [List.drop_zero] at O3
  change Own H3 (lv 9 4 7 ord.length (firstF ord) (lastF f ord) ++ _) at O3
  have hb8 : buildV [.sl 0 [] (some 0), .sl 0 [] (some 0)] [(0, 1, .own 4 0 ord.length 1 (some ord.length)), (1, 1, .own 7 0 ord.length 1 (some ord.length))] = some (.val (.agg [.own 4 0 ord.length 1 (some ord.length), .own 7 0 ord.length 1 (some ord.length)]) none) := rfl
  have st9 : storeAt [.row f.cs 29, .row [.sl 0 [] (some 0), .sl 0 [] (some 0)] 76, .dead, .dead, .row (List.replicate ord.length (litI .i64 0)) 3, .dead, .dead, .row (List.replicate ord.length (litI .i64 0)) 3, .dead, .row [.sl 0 [] (some 0), .sl 0 [] (some 0)] 76] 2 (.ptr 9 0) (.agg [.own 4 0 ord.length 1 (some ord.length), .own 7 0 ord.length 1 (some ord.length)]) = some [.row f.cs 29, .row [.sl 0 [] (some 0), .sl 0 [] (some 0)] 76, .dead, .dead, .row (List.replicate ord.length (litI .i64 0)) 3, .dead, .dead, .row (List.replicate ord.length (litI .i64 0)) 3, .dead, .row [.own 4 0 ord.length 1 (some ord.length), .own 7 0 ord.length 1 (some ord.length)] 76] := rfl
  have lA : Ai.load H1 (some 8) (.ptr 0 0) = some (.agg f.cs) := own_agg O1 (cs := f.cs) (t := 29) (by simp) rfl
  have lA2 : Ai.load H2 (some 8) (.ptr 0 0) = some (.agg f.cs) := own_agg O2 (cs := f.cs) (t := 29) (by simp) rfl
  have l5 : Ai.load H3 (some 2) (.ptr 9 0) = some (.agg [.own 4 0 ord.length 1 (some ord.length), .own 7 0 ord.length 1 (some ord.length)]) := own_agg O3 (cs := [.own 4 0 ord.length 1 (some ord.length), .own 7 0 ord.length 1 (some ord.length)]) (t := 76) (by simp) rfl
  have O4 : Own H3 ((1, [.sl 0 [] (some 0), .sl 0 [] (some 0)], 76) :: ([(0, f.cs, 29)] ++ lv 9 4 7 ord.length (firstF ord) (lastF f ord))) := by
    refine O3.perm (List.perm_append_comm.trans ?_)
    exact List.Perm.swap ..
  have O5 := O4.set [.own 4 0 ord.length 1 (some ord.length), .own 7 0 ord.length 1 (some ord.length)] 76
  have st1 : storeAt H3 2 (.ptr 1 0) (.agg [.own 4 0 ord.length 1 (some ord.length), .own 7 0 ord.length 1 (some ord.length)]) = some (setL H3 1 (.row [.own 4 0 ord.length 1 (some ord.length), .own 7 0 ord.length 1 (some ord.length)] 76)) := storeAt_agg O4.head rfl rfl rfl
  generalize setL H3 1 (.row [.own 4 0 ord.length 1 (some ord.length), .own 7 0 ord.length 1 (some ord.length)] 76) = H4 at O5 st1
  have lR : Ai.load H4 (some 2) (.ptr 1 0) = some (.agg [.own 4 0 ord.length 1 (some ord.length), .own 7 0 ord.length 1 (some ord.length)]) := own_agg O5 (cs := [.own 4 0 ord.length 1 (some ord.length), .own 7 0 ord.length 1 (some ord.length)]) (t := 76) (by simp) rfl
  have fa := Ord.frz_ints (H := H4) (p := 4) (k := 13) (c := some ord.length) (l := firstF ord) (z := []) (t := 3) (n := ord.length) (by rw [List.append_nil]; exact O5.get (4, cellsI (firstF ord), 3) (by simp)) rfl (firstF_len ord).symm
  have fb := Ord.frz_ints (H := H4) (p := 7) (k := 13) (c := some ord.length) (l := lastF f ord) (z := []) (t := 3) (n := ord.length) (by rw [List.append_nil]; exact O5.get (7, cellsI (lastF f ord), 3) (by simp)) rfl (lastF_len f ord).symm
  refine callV_frz (a := .agg [.own 4 0 ord.length 1 (some ord.length), .own 7 0 ord.length 1 (some ord.length)]) (H' := H4) (ids := [4] ++ ([7] ++ [])) rfl (by obtain ⟨e, xs, c, rfl⟩ := hB.cases; rfl) ?_ ?_
  · refine cw_of fn33 (c := c33) rfl rfl rfl rfl ?_
    simp -implicitDefEqProofs only [c33, aW, ↓aP, makes, Nat.reduceLT, Nat.reduceEqDiff, Nat.reduceAdd, core_box, flat_f, List.length_nil, List.length_cons, hB.lenV, hm1, hm2, core_build, hb8, st9, L0, lA, hN, Ord.lenV_gX, L2, lA2, hbc, hB2.lenV, L3, l5, st1]
    simp only [Option.bind_some, fin, fn33, res, resL, resV, get_cons, get_nil, if_true, lR]
  · rw [show frzF = 13 + 2 + 1 from rfl, frz]
    simp only [mapL, fa, fb, Option.bind_some]
end Go.Proofs.Ytcgbdndkfonphaa.Ai
namespace Go.Proofs.Ytcgbdndkfonphaa.Ai
open Go Go.Ai
variable {call : CallF} {mt : MtF} {md : FuncId → Md}
theorem reads_slx {A : AV} {l : List Int} {o d : List Obj1} {H : List AO} (S : SlX A l o) (O : Own H (o ++ d)) : Reads H A l := by
  rcases S with ⟨e, rfl, rfl, rfl⟩ | ⟨p, z, hz, rfl, rfl⟩
  · exact ⟨rfl, fun j x h => by cases h⟩
  · exact reads_own O.head
theorem index34r_loop (A : AV) (l : List Int) (p : Int → Bool) (fv : AV) (H : List AO) (R : Reads H A l) (hp : ∀ x ∈ l, ∀ id, fnV cw mds fv [litI .i64 x] H id = some (.wr (litB (p x)) H)) (hl : l.length ≤ 1000000) : ∀ (m n : Nat), m + n = l.length →
    loopW (codeW cw (lookM mtl) mds c34l0) [0, 1, 7, 8] [(0, A), (1, fv), (7, litI .i64 l.length), (8, litI .i64 n)] H =
      some (if findF p n (l.drop n) = -1 then (EX.exit 0, [(0, A), (1, fv), (7, litI .i64 l.length), (8, litI .i64 l.length), (9, litB false)], H) else (.ret, [(4, litI .i64 (findF p n (l.drop n)))], H))
  | 0, n, h => by
    have hn : n = l.length := by omega
    subst hn
    rw [if_pos (by simp [findF])]
    refine loopW_out ?_ (by simp)
    simp -implicitDefEqProofs only [c34l0, aW, ↓aP, makes, Nat.reduceLT, Nat.reduceEqDiff, Nat.reduceAdd, Int.lt_irrefl]
  | m + 1, n, h => by
    have hn : n < l.length := by omega
    have hg : l[n]? = some l[n] := List.getElem?_eq_getElem hn
    obtain ⟨c, hc1, hc2⟩ := R.el n _ hg
    have hlt : (n : Int) < l.length := by omega
    have hd : l.drop n = l[n] :: l.drop (n + 1) := List.drop_eq_getElem_cons hn
    have hx := fun id => hp l[n] (List.getElem_mem hn) id
    rw [hd, findF]
    cases hc : p l[n] with
    | true =>
      rw [hc] at hx
      rw [cond_true, if_neg (by omega)]
      refine loopW_out ?_ (by simp)
      simp -implicitDefEqProofs only [c34l0, aW, ↓aP, makes, Nat.reduceLT, Nat.reduceEqDiff, Nat.reduceAdd, hc1, hc2, hlt, hx]
    | false =>
      rw [hc] at hx
      rw [cond_false]
      refine loopW_round ?_ (index34r_loop A l p fv H R hp hl m (n + 1) (by omega))
      simp -implicitDefEqProofs only [c34l0, aW, ↓aP, makes, Nat.reduceLT, Nat.reduceEqDiff, Nat.reduceAdd, hc1, hc2, hlt, hx, wrap1 (show n < 4611686018427387904 by omega)]
theorem index34r_call (A : AV) (l : List Int) (p : Int → Bool) (fv : AV) (H : List AO) (R : Reads H A l) (hp : ∀ x ∈ l, ∀ id, fnV cw mds fv [litI .i64 x] H id = some (.wr (litB (p x)) H)) (hl : l.length ≤ 1000000) (id : Nat) :
    callV cw mds 34 [A, fv] H id = some (.wr (litI .i64 (findF p 0 l)) H) := by
  refine callV_same rfl (cw_of fn34 (c := c34) rfl rfl rfl rfl ?_) rfl
  have L := index34r_loop A l p fv H R hp hl l.length 0 (by omega)
  rw [List.drop_zero, show ((0 : Nat) : Int) = 0 from rfl] at L
  by_cases ha : findF p 0 l = -1
  · rw [if_pos ha] at L
    rw [ha]
    simp -implicitDefEqProofs only [c34, aW, ↓aP, makes, Nat.reduceLT, Nat.reduceEqDiff, Nat.reduceAdd, R.len, L]
    rfl
  · rw [if_neg ha] at L
    simp -implicitDefEqProofs only [c34, aW, ↓aP, makes, Nat.reduceLT, Nat.reduceEqDiff, Nat.reduceAdd, R.len, L]
    rfl
theorem contains38r_call (A : AV) (l : List Int) (p : Int → Bool) (fv : AV) (H : List AO) (R : Reads H A l) (hp : ∀ x ∈ l, ∀ id, fnV cw mds fv [litI .i64 x] H id = some (.wr (litB (p x)) H)) (hl : l.length ≤ 1000000) (id : Nat) :
    callV cw mds 38 [A, fv] H id = some (.wr (litB (l.any p)) H) := by
  refine callV_same rfl (cw_of fn38 (c := c38) rfl rfl rfl rfl ?_) rfl
  have L := fun id => index34r_call A l p fv H R hp hl id
  rw [← findF_any p l 0]
  simp -implicitDefEqProofs only [c38, aW, ↓aP, makes, Nat.reduceLT, Nat.reduceEqDiff, Nat.reduceAdd, L]
  rfl
theorem lt35_call {H : List AO} {r : Nat} {i : Int} (h : Ai.load H none (.ptr r 0) = some (litI .i64 i)) (x : Int) (id : Nat) : fnV cw mds (.fn (.func 35) [] [.ptr r 0]) [litI .i64 x] H id = some (.wr (litB (decide (x < i))) H) := by
  show callV cw mds 35 [litI .i64 x, .ptr r 0] H id = _
  refine callV_same rfl (cw_of fn35 (c := c35) rfl rfl rfl rfl ?_) rfl
  simp -implicitDefEqProofs only [c35, aW, ↓aP, makes, Nat.reduceLT, Nat.reduceEqDiff, Nat.reduceAdd, h]
  rfl
def slotOf (i : Nat) (u : List Int) : Nat := if findF (fun x => decide (x < (i : Int))) 0 u < 0 then u.length else (findF (fun x => decide (x < (i : Int))) 0 u).toNat
def stepU (last : List Int) (i v : Nat) (u : List Int) : List Int := (if findF (fun x => decide (x < (i : Int))) 0 u < 0 then u ++ [0] else u).set (slotOf i u) (last.getD v 0)
theorem findF_lt (p : Int → Bool) : ∀ (l : List Int) (n : Nat), findF p n l < 0 ∨ ∃ i : Nat, findF p n l = ((n + i : Nat) : Int) ∧ i < l.length
  | [], n => .inl (by simp [findF])
  | x :: r, n => by
    rw [findF]
    cases p x with
    | true => right; exact ⟨0, by simp, by simp⟩
    | false =>
      rw [cond_false]
      rcases findF_lt p r (n + 1) with h | ⟨i, h1, h2⟩
      · exact .inl h
      · right; exact ⟨i + 1, by rw [h1]; congr 1; omega, by simp; omega⟩
theorem slotOf_lt (i : Nat) (u : List Int) : slotOf i u ≤ u.length ∧ (stepU [] i 0 u).length = max u.length (slotOf i u + 1) := by
  unfold stepU slotOf
  rcases findF_lt (fun x => decide (x < (i : Int))) u 0 with h | ⟨j, h1, h2⟩
  · rw [if_pos h, if_pos h]; simp
  · rw [h1]
    have : ¬ (((0 + j : Nat) : Int) < 0) := by omega
    rw [if_neg this, if_neg this]
    simp; omega
theorem pl_round (B : AV) (ord : List Int) (hB : RowA B ord) (first last : List Int) (c1 c2 : Option Nat) (n Lp Q Sp : Nat) (v2 : AV) (d : List Obj1) (hL : (Lp, [rowC first c1, rowC last c2], 76) ∈ d) (hQ : (Q, [B, .own Sp 0 n 1 (some n), litI .i64 0], 32) ∈ d) (i v : Nat) (hv : ord[i]? = some (v : Int)) (hvn : v < n) (hi : i < 4611686018427387904) (hll : last.length = n) (slots : List Int) (hsl : slots.length = n) (A : AV) (u : List Int) (o : List Obj1) (H : List AO) (hu : u.length ≤ 100000) (S : SlX A u o) (O : Own H (o ++ ((Sp, cellsI slots, 3) :: d))) :
    ∃ A' o' H', codeW cw (lookM mtl) mds c16l0 [(2, v2), (6, .ptr Lp 0), (7, .ptr Q 0), (8, A), (29, B), (30, litI .i64 ord.length), (31, litI .i64 i)] H =
      some (.normal, [(2, v2), (6, .ptr Lp 0), (7, .ptr Q 0), (8, A'), (29, B), (30, litI .i64 ord.length), (31, litI .i64 (i + 1 : Nat))], H') ∧ SlX A' (stepU last i v u) o' ∧ Own H' (o' ++ ((Sp, cellsI (slots.set v (slotOf i u)), 3) :: d)) := by
  have hlt : (i : Int) < ord.length := by have := (List.getElem?_eq_some_iff.1 hv).1; omega
  have O1 := own_newM O [litI .i64 i] 3
  have stb : storeAt (H ++ [.row [litI .i64 0] 3]) 1 (.ptr H.length 0) (litI .i64 i) = some (H ++ [.row [litI .i64 i] 3]) := by
    rw [store_ptr (get_last H _) (by simp) rfl rfl, setL_last]; rfl
  have lb : Ai.load (H ++ [.row [litI .i64 i] 3]) none (.ptr H.length 0) = some (litI .i64 i) := own_load O1 (cs := [litI .i64 i]) (t := 3) (by simp) rfl
  have hix := fun id => index34r_call A u (fun x => decide (x < (i : Int))) (.fn (.func 35) [] [.ptr H.length 0]) _ (reads_slx S O1) (fun x _ id => lt35_call lb x id) (by omega) id
  have hlast : Ai.iadr 1 (rowC last c2) (litI .i64 v) = some (.ip [litI .i64 (last.getD v 0)]) := by
    rw [iadr_row, Ord.getI (by omega)]; rfl
  have hw := wrap1 hi
  have hvi := iadr_ownI (r := Sp) (n := n) (c := some n) (x := (v : Int)) (by omega) (by omega)
  rw [Int.toNat_natCast] at hvi
  rcases findF_lt (fun x => decide (x < (i : Int))) u 0 with h | ⟨j, h1, h2⟩
  · -- a new slot
    have hs : slotOf i u = u.length := by unfold slotOf; rw [if_pos h]
    have hU : stepU last i v u = (u ++ [0]).set u.length (last.getD v 0) := by unfold stepU; rw [if_pos h, hs]
    obtain ⟨A2, o2, H2, ap, S2, O2⟩ := S.append O1 (RowA.of [0] (some 1)) (by simp; omega)
    rcases S2 with ⟨e, _, h0, _⟩ | ⟨p, z, hz, rfl, rfl⟩
    · simp at h0
    have hcut : ∃ A1, slice 1 A none (some (litI .i64 u.length)) (some (litI .i64 u.length)) = some A1 ∧ append (H ++ [AO.row [litI .i64 i] 3]) (H ++ [AO.row [litI .i64 i] 3]).length 1 8 3 A1 (rowC [0] (some 1)) = append (H ++ [AO.row [litI .i64 i] 3]) (H ++ [AO.row [litI .i64 i] 3]).length 1 8 3 A (rowC [0] (some 1)) := by
      rcases S with ⟨e, rfl, rfl, _⟩ | ⟨p', z', _, rfl, _⟩
      · refine ⟨.sl 1 [] (some 0), ?_, ?_⟩
        · simp only [slice, List.isEmpty_nil, Bool.or_true, cond_true]; rfl
        · simp only [append, rowC, List.map_cons, List.map_nil, elems, BEq.rfl, Bool.true_or, cond_true, Option.bind_some, List.isEmpty_nil, Bool.or_true, List.length_cons, List.length_nil, Nat.zero_add, Nat.reduceBEq, cond_false]
      · refine ⟨.own p' 0 u.length 1 (some u.length), ?_, rfl⟩
        have hb : ((u.length : Int) ≤ u.length) := Int.le_refl _
        simp only [slice, BEq.rfl, cond_true, cuts, bound, litI, Int.natCast_nonneg, hb, decide_true, Bool.and_self, Option.bind_some, Int.toNat_natCast, Nat.zero_mul, Nat.zero_add, Nat.sub_zero]
    obtain ⟨A1, sl1, apc⟩ := hcut
    rw [← apc] at ap
    have hlen : (u ++ [0]).length = u.length + 1 := by simp
    have hui := iadr_ownI (r := p) (n := (u ++ [0]).length) (c := none) (x := (u.length : Int)) (by omega) (by omega)
    rw [Int.toNat_natCast] at hui
    rw [List.singleton_append] at O2
    have st2 : storeAt H2 1 (.ptr p u.length) (litI .i64 (last.getD v 0)) = some (setL H2 p (.row (cellsI ((u ++ [0]).set u.length (last.getD v 0)) ++ z) 3)) := by
      rw [store_ptr O2.head (by simp [cellsI]) rfl rfl, List.set_append_left _ _ (by simp [cellsI])]
      simp [cellsI]
    have O3 := O2.set (cellsI ((u ++ [0]).set u.length (last.getD v 0)) ++ z) 3
    generalize setL H2 p (.row (cellsI ((u ++ [0]).set u.length (last.getD v 0)) ++ z) 3) = H3 at st2 O3
    have lL2 : Ai.load H2 none (.ptr Lp 1) = some (rowC last c2) := own_load O2 (cs := [rowC first c1, rowC last c2]) (t := 76) (by simp [hL]) rfl
    have lQ3 : Ai.load H3 none (.ptr Q 1) = some (.own Sp 0 n 1 (some n)) := own_load O3 (cs := [B, .own Sp 0 n 1 (some n), litI .i64 0]) (t := 32) (by simp [hQ]) rfl
    have O4 : Own H3 ((Sp, cellsI slots, 3) :: (p, cellsI ((u ++ [0]).set u.length (last.getD v 0)) ++ z, 3) :: (H.length, [litI .i64 i], 3) :: d) := O3.perm ((List.Perm.cons _ (List.Perm.swap ..)).trans (List.Perm.swap ..))
    have st3 : storeAt H3 1 (.ptr Sp v) (litI .i64 u.length) = some (setL H3 Sp (.row (cellsI (slots.set v u.length)) 3)) := by
      rw [store_ptr O4.head (by rw [cellsI_len]; omega) rfl rfl]
      simp [cellsI]
    have O5 := (O4.set (cellsI (slots.set v u.length)) 3).perm (List.Perm.swap ..)
    generalize setL H3 Sp (.row (cellsI (slots.set v u.length)) 3) = H4 at st3 O5
    refine ⟨.own p 0 (u ++ [0]).length 1 none, [(p, cellsI ((u ++ [0]).set u.length (last.getD v 0)) ++ z, 3)], H4, ?_, ?_, ?_⟩
    rotate_left
    · rw [hU]
      have := SlX.own p ((u ++ [0]).set u.length (last.getD v 0)) z hz
      rw [List.length_set] at this
      exact this
    · rw [hs]
      refine O5.sub ?_
      simp only [List.singleton_append]
      exact List.Sublist.cons_cons _ (List.Sublist.cons_cons _ (List.sublist_cons_self ..))
    · have hneg : decide (findF (fun x => decide (x < (i : Int))) 0 u < 0) = true := decide_eq_true h
      simp -implicitDefEqProofs only [c16l0, aW, ↓aP, makes, Nat.reduceLT, Nat.reduceEqDiff, Nat.reduceAdd, hlt, hB.iadr hv, stb, core_mkf, hix, h, S.lenV, sl1, core_bsl, bslV_1r, ap.opS, fadr_ptr, Nat.zero_add, lL2, hlast, hui, st2, lQ3, hvi, st3, hw]
  · -- a slot that is free
    rw [Nat.zero_add] at h1
    have hnn : ¬ findF (fun x => decide (x < (i : Int))) 0 u < 0 := by rw [h1]; omega
    have hs : slotOf i u = j := by unfold slotOf; rw [if_neg hnn, h1]; rfl
    have hU : stepU last i v u = u.set j (last.getD v 0) := by unfold stepU; rw [if_neg hnn, hs]
    rw [h1] at hix
    rcases S with ⟨e, _, h0, _⟩ | ⟨p, z, hz, rfl, rfl⟩
    · rw [h0] at h2; simp at h2
    have hui := iadr_ownI (r := p) (n := u.length) (c := none) (x := (j : Int)) (by omega) (by omega)
    rw [Int.toNat_natCast] at hui
    rw [List.singleton_append] at O1
    have st2 : storeAt (H ++ [.row [litI .i64 i] 3]) 1 (.ptr p j) (litI .i64 (last.getD v 0)) = some (setL (H ++ [.row [litI .i64 i] 3]) p (.row (cellsI (u.set j (last.getD v 0)) ++ z) 3)) := by
      rw [store_ptr O1.head (by simp [cellsI]; omega) rfl rfl, List.set_append_left _ _ (by simp [cellsI]; omega)]
      simp [cellsI]
    have O3 := O1.set (cellsI (u.set j (last.getD v 0)) ++ z) 3
    generalize setL (H ++ [.row [litI .i64 i] 3]) p (.row (cellsI (u.set j (last.getD v 0)) ++ z) 3) = H3 at st2 O3
    have lL2 : Ai.load (H ++ [.row [litI .i64 i] 3]) none (.ptr Lp 1) = some (rowC last c2) := own_load O1 (cs := [rowC first c1, rowC last c2]) (t := 76) (by simp [hL]) rfl
    have lQ3 : Ai.load H3 none (.ptr Q 1) = some (.own Sp 0 n 1 (some n)) := own_load O3 (cs := [B, .own Sp 0 n 1 (some n), litI .i64 0]) (t := 32) (by simp [hQ]) rfl
    have O4 : Own H3 ((Sp, cellsI slots, 3) :: (p, cellsI (u.set j (last.getD v 0)) ++ z, 3) :: (H.length, [litI .i64 i], 3) :: d) := O3.perm ((List.Perm.cons _ (List.Perm.swap ..)).trans (List.Perm.swap ..))
    have st3 : storeAt H3 1 (.ptr Sp v) (litI .i64 j) = some (setL H3 Sp (.row (cellsI (slots.set v j)) 3)) := by
      rw [store_ptr O4.head (by rw [cellsI_len]; omega) rfl rfl]
      simp [cellsI]
    have O5 := (O4.set (cellsI (slots.set v j)) 3).perm (List.Perm.swap ..)
    generalize setL H3 Sp (.row (cellsI (slots.set v j)) 3) = H4 at st3 O5
    refine ⟨.own p 0 u.length 1 none, [(p, cellsI (u.set j (last.getD v 0)) ++ z, 3)], H4, ?_, ?_, ?_⟩
    rotate_left
    · rw [hU]
      have := SlX.own p (u.set j (last.getD v 0)) z hz
      rw [List.length_set] at this
      exact this
    · rw [hs]
      refine O5.sub ?_
      simp only [List.singleton_append]
      exact List.Sublist.cons_cons _ (List.Sublist.cons_cons _ (List.sublist_cons_self ..))
    · have hj0 : ¬ ((j : Nat) : Int) < 0 := by omega
      simp -implicitDefEqProofs only [c16l0, aW, ↓aP, makes, Nat.reduceLT, Nat.reduceEqDiff, Nat.reduceAdd, hlt, hB.iadr hv, stb, core_mkf, hix, hj0, fadr_ptr, Nat.zero_add, lL2, hlast, hui, st2, lQ3, hvi, st3, hw]
end Go.Proofs.Ytcgbdndkfonphaa.Ai
namespace Go.Proofs.Ytcgbdndkfonphaa.Ai
open Go Go.Ai
variable {call : CallF} {mt : MtF} {md : FuncId → Md}
def plF (last : List Int) : Nat → List Int → List Int × List Int → List Int × List Int
  | _, [], s => s
  | i, v :: r, s => plF last (i + 1) r (stepU last i v.toNat s.1, s.2.set v.toNat (slotOf i s.1))
theorem stepU_len (last : List Int) (i v : Nat) (u : List Int) : (stepU last i v u).length ≤ u.length + 1 := by
  unfold stepU
  rw [List.length_set]
  split <;> simp
theorem plF_len (last : List Int) : ∀ (r : List Int) (i : Nat) (s : List Int × List Int), (plF last i r s).2.length = s.2.length
  | [], _, _ => rfl
  | v :: r, i, s => by rw [plF, plF_len last r]; simp
theorem pl_loop (B : AV) (ord : List Int) (hB : RowA B ord) (first last : List Int) (c1 c2 : Option Nat) (n Lp Q Sp : Nat) (v2 : AV) (d : List Obj1) (hL : (Lp, [rowC first c1, rowC last c2], 76) ∈ d) (hQ : (Q, [B, .own Sp 0 n 1 (some n), litI .i64 0], 32) ∈ d) (hr : ∀ x ∈ ord, 0 ≤ x ∧ x < (n : Int)) (hn : ord.length ≤ 10000) (hll : last.length = n) : ∀ (m i : Nat) (slots : List Int) (A : AV) (u : List Int) (o : List Obj1) (H : List AO), m + i = ord.length → slots.length = n → u.length ≤ i → SlX A u o → Own H (o ++ ((Sp, cellsI slots, 3) :: d)) →
    ∃ A' o' H', loopW (codeW cw (lookM mtl) mds c16l0) [2, 6, 7, 8, 29, 30, 31] [(2, v2), (6, .ptr Lp 0), (7, .ptr Q 0), (8, A), (29, B), (30, litI .i64 ord.length), (31, litI .i64 i)] H =
      some (.exit 0, [(2, v2), (6, .ptr Lp 0), (7, .ptr Q 0), (8, A'), (29, B), (30, litI .i64 ord.length), (31, litI .i64 ord.length), (32, litB false)], H') ∧ SlX A' (plF last i (ord.drop i) (u, slots)).1 o' ∧ Own H' (o' ++ ((Sp, cellsI (plF last i (ord.drop i) (u, slots)).2, 3) :: d))
  | 0, i, slots, A, u, o, H, h, hs, hu, S, O => by
    have hi : i = ord.length := by omega
    subst hi
    refine ⟨A, o, H, loopW_out ?_ (by simp), ?_, ?_⟩
    · simp -implicitDefEqProofs only [c16l0, aW, ↓aP, makes, Nat.reduceLT, Nat.reduceEqDiff, Nat.reduceAdd, Int.lt_irrefl]
    · rw [List.drop_length]; exact S
    · rw [List.drop_length]; exact O
  | m + 1, i, slots, A, u, o, H, h, hs, hu, S, O => by
    have hi : i < ord.length := by omega
    have hg : ord[i]? = some ord[i] := List.getElem?_eq_getElem hi
    have hx := hr _ (List.getElem_mem hi)
    rw [List.drop_eq_getElem_cons hi]
    generalize ord[i] = v at hg hx
    rw [plF]
    have hv : ((v.toNat : Nat) : Int) = v := by omega
    obtain ⟨A1, o1, H1, R, S1, O1⟩ := pl_round B ord hB first last c1 c2 n Lp Q Sp v2 d hL hQ i v.toNat (by rw [hv]; exact hg) (by omega) (by omega) hll slots hs A u o H (by omega) S O
    have := stepU_len last i v.toNat u
    obtain ⟨A', o', H', L, S', O'⟩ := pl_loop B ord hB first last c1 c2 n Lp Q Sp v2 d hL hQ hr hn hll m (i + 1) _ A1 _ o1 H1 (by omega) (by simpa using hs) (by omega) S1 O1
    exact ⟨A', o', H', loopW_round R L, S', O'⟩
def planOk (f : FlatV) : Bool := goodOk f && Ord.okL (NC f)
def slotsF (f : FlatV) (ord : List Int) : List Int × List Int := plF (lastF f ord) 0 ord ([], List.replicate ord.length 0)
theorem ord_facts (g : List (List Int)) (h : Ord.okL g = true) : (Ord.outL g).length = g.length ∧ (∀ x ∈ Ord.outL g, 0 ≤ x ∧ x < (g.length : Int)) ∧ (Ord.outL g).Nodup := by
  obtain ⟨ws, K⟩ := Ord.outL_ok g
  have hr := K.rng
  have hn := K.nd
  rw [List.nil_append] at hr hn
  refine ⟨?_, hr, hn⟩
  simp only [Ord.okL, decide_eq_true_eq] at h
  have hm : ((Ord.outL g).map Int.toNat).Nodup := by
    generalize Ord.outL g = l at hr hn
    induction l with
    | nil => simp
    | cons x l ih =>
      rw [List.nodup_cons] at hn
      rw [List.map_cons, List.nodup_cons]
      refine ⟨fun hm => hn.1 ?_, ih (fun y hy => hr y (List.mem_cons_of_mem _ hy)) hn.2⟩
      obtain ⟨y, hy, e⟩ := List.mem_map.1 hm
      have h1 := hr x (List.mem_cons_self ..)
      have h2 := hr y (List.mem_cons_of_mem _ hy)
      rw [show x = y by omega]; exact hy
  have := nodup_le (m := List.range g.length) hm (fun x hx => by
    obtain ⟨y, hy, rfl⟩ := List.mem_map.1 hx
    have := hr y hy
    rw [List.mem_range]; omega)
  simp at this; omega
theorem planOf_bad (f : FlatV) (F : FitsS f) (hp : planOk f = false) (H : List AO) (id : Nat) : callV cw mds 16 [flatA f] H id = some (.val (.tup [planA (.sl 0 [] (some 0)) (.sl 0 [] (some 0)) 0, litI .i64 (errA (goodOk f) (Ord.okL (NC f)))]) none) := by
  obtain ⟨B, hB, ho⟩ := corder_call f F
  have hoc : ∀ H id, callV cw mds 32 [.agg f.cs] H id = some (.val (.tup [B, litI .i64 (errA (goodOk f) (Ord.okL (NC f)))]) none) := ho
  have he : (errA (goodOk f) (Ord.okL (NC f)) != 0) = true := by
    unfold planOk at hp
    cases h1 : goodOk f with
    | false => rfl
    | true => rw [h1, Bool.true_and] at hp; rw [hp]; rfl
  have lA : Ai.load [.row f.cs 29, .row [.sl 0 [] (some 0), .sl 0 [] (some 0), litI .i64 0] 32] (some 8) (.ptr 0 0) = some (.agg f.cs) := load_agg rfl rfl
  have hb0 : buildV [.sl 0 [] (some 0), .sl 0 [] (some 0), litI .i64 0] [] = some (.val (.agg [.sl 0 [] (some 0), .sl 0 [] (some 0), litI .i64 0]) none) := rfl
  have st : storeAt [.row f.cs 29, .row [.sl 0 [] (some 0), .sl 0 [] (some 0), litI .i64 0] 32] 3 (.ptr 1 0) (.agg [.sl 0 [] (some 0), .sl 0 [] (some 0), litI .i64 0]) = some [.row f.cs 29, .row [.sl 0 [] (some 0), .sl 0 [] (some 0), litI .i64 0] 32] := rfl
  refine callV_frz (a := .tup [planA (.sl 0 [] (some 0)) (.sl 0 [] (some 0)) 0, litI .i64 (errA (goodOk f) (Ord.okL (NC f)))]) (H' := [.row f.cs 29, .row [.sl 0 [] (some 0), .sl 0 [] (some 0), litI .i64 0] 32]) (ids := []) rfl rfl ?_ rfl
  refine cw_of fn16 (c := c16) rfl rfl rfl rfl ?_
  simp -implicitDefEqProofs only [c16, aW, ↓aP, makes, Nat.reduceLT, Nat.reduceEqDiff, Nat.reduceAdd, core_box, flat_f, List.length_nil, List.length_cons, lA, hoc, he, core_build, hb0, st]
  rfl
theorem planOf_good (f : FlatV) (F : FitsS f) (hp : planOk f = true) : ∃ B, RowA B (ordL (NC f)) ∧ ∀ H id, callV cw mds 16 [flatA f] H id = some (.val (.tup [planA B (rowC (slotsF f (ordL (NC f))).2 (some (ordL (NC f)).length)) (slotsF f (ordL (NC f))).1.length, litI .i64 0]) none) := by
  obtain ⟨B, hB, ho⟩ := corder_call f F
  unfold planOk at hp
  rw [Bool.and_eq_true] at hp
  obtain ⟨hG, hK⟩ := hp
  rw [if_pos hG] at hB
  refine ⟨B, hB, fun H id => ?_⟩
  have G := goodF_of hG
  have hoc : ∀ H id, callV cw mds 32 [.agg f.cs] H id = some (.val (.tup [B, litI .i64 0]) none) := by
    intro H id
    have := ho H id
    rw [hG, hK] at this
    exact this
  have e0 : ordL (NC f) = Ord.outL (NC f) := if_pos hK
  obtain ⟨k1, k2, _⟩ := ord_facts (NC f) hK
  rw [← e0, NC_len] at k1 k2
  have hnn := F.names
  have lA : Ai.load [.row f.cs 29, .row [.sl 0 [] (some 0), .sl 0 [] (some 0), litI .i64 0] 32] (some 8) (.ptr 0 0) = some (.agg f.cs) := load_agg rfl rfl
  have hof : ∀ H id, callV cw mds 33 [.agg f.cs, B] H id = some (.val (.agg [rowC (firstF (ordL (NC f))) (some (ordL (NC f)).length), rowC (lastF f (ordL (NC f))) (some (ordL (NC f)).length)]) none) := fun H id => of_call f F hG hB k1 k2 H id
  have hof' := of_call f F hG hB k1 k2
  have st2 : storeAt [.row f.cs 29, .row [.sl 0 [] (some 0), .sl 0 [] (some 0), litI .i64 0] 32, .row [.sl 0 [] (some 0), .sl 0 [] (some 0)] 76] 2 (.ptr 2 0) (.agg [rowC (firstF (ordL (NC f))) (some (ordL (NC f)).length), rowC (lastF f (ordL (NC f))) (some (ordL (NC f)).length)]) = some [.row f.cs 29, .row [.sl 0 [] (some 0), .sl 0 [] (some 0), litI .i64 0] 32, .row [rowC (firstF (ordL (NC f))) (some (ordL (NC f)).length), rowC (lastF f (ordL (NC f))) (some (ordL (NC f)).length)] 76] := by
    rw [storeAt_agg (r := 2) (n := 2) (cs := [.sl 0 [] (some 0), .sl 0 [] (some 0)]) (t := 76) rfl rfl rfl rfl]; rfl
  have hm1 := mksV_ok (id := 3) (e := 1) (bytes := 8) (z := [litI .i64 0]) (t := 3) (n := (ordL (NC f)).length) (by omega) (by omega)
  rw [reps_one] at hm1
  obtain ⟨eB, xB, cB, eqB⟩ := hB.cases
  have hb3 : buildV [.sl 0 [] (some 0), .sl 0 [] (some 0), litI .i64 0] [(0, 1, B), (1, 1, .own 3 0 (ordL (NC f)).length 1 (some (ordL (NC f)).length))] = some (.val (.agg [B, .own 3 0 (ordL (NC f)).length 1 (some (ordL (NC f)).length), litI .i64 0]) none) := by rw [eqB]; rfl
  have st4 : storeAt [.row f.cs 29, .row [.sl 0 [] (some 0), .sl 0 [] (some 0), litI .i64 0] 32, .row [rowC (firstF (ordL (NC f))) (some (ordL (NC f)).length), rowC (lastF f (ordL (NC f))) (some (ordL (NC f)).length)] 76, .row (List.replicate (ordL (NC f)).length (litI .i64 0)) 3, .row [.sl 0 [] (some 0), .sl 0 [] (some 0), litI .i64 0] 32] 3 (.ptr 4 0) (.agg [B, .own 3 0 (ordL (NC f)).length 1 (some (ordL (NC f)).length), litI .i64 0]) = some [.row f.cs 29, .row [.sl 0 [] (some 0), .sl 0 [] (some 0), litI .i64 0] 32, .row [rowC (firstF (ordL (NC f))) (some (ordL (NC f)).length), rowC (lastF f (ordL (NC f))) (some (ordL (NC f)).length)] 76, .row (List.replicate (ordL (NC f)).length (litI .i64 0)) 3, .row [B, .own 3 0 (ordL (NC f)).length 1 (some (ordL (NC f)).length), litI .i64 0] 32] := by
    rw [storeAt_agg (r := 4) (n := 3) (cs := [.sl 0 [] (some 0), .sl 0 [] (some 0), litI .i64 0]) (t := 32) rfl rfl rfl (by rw [eqB]; rfl)]; rfl
  let d : List Obj1 := [(0, f.cs, 29), (1, [.sl 0 [] (some 0), .sl 0 [] (some 0), litI .i64 0], 32), (2, [rowC (firstF (ordL (NC f))) (some (ordL (NC f)).length), rowC (lastF f (ordL (NC f))) (some (ordL (NC f)).length)], 76), (4, [B, .own 3 0 (ordL (NC f)).length 1 (some (ordL (NC f)).length), litI .i64 0], 32)]
  have hz : cellsI (List.replicate (ordL (NC f)).length 0) = List.replicate (ordL (NC f)).length (litI .i64 0) := by simp [cellsI]
  have O : Own ([.row f.cs 29, .row [.sl 0 [] (some 0), .sl 0 [] (some 0), litI .i64 0] 32, .row [rowC (firstF (ordL (NC f))) (some (ordL (NC f)).length), rowC (lastF f (ordL (NC f))) (some (ordL (NC f)).length)] 76, .row (List.replicate (ordL (NC f)).length (litI .i64 0)) 3, .row [B, .own 3 0 (ordL (NC f)).length 1 (some (ordL (NC f)).length), litI .i64 0] 32] : List AO) ([] ++ ((3, cellsI (List.replicate (ordL (NC f)).length 0), 3) :: d)) := by
    rw [hz, List.nil_append]
    refine ⟨by simp [d], fun x hx => ?_⟩
    simp only [d, List.mem_cons, List.not_mem_nil, or_false] at hx
    rcases hx with rfl | rfl | rfl | rfl | rfl <;> rfl
  obtain ⟨A', o', H5, L, S', O'⟩ := pl_loop B (ordL (NC f)) hB (firstF (ordL (NC f))) (lastF f (ordL (NC f))) (some (ordL (NC f)).length) (some (ordL (NC f)).length) (ordL (NC f)).length 2 4 3 (.ptr 1 0) d (by simp [d]) (by simp [d]) (fun x hx => by rw [k1]; exact k2 x hx) (by omega) (lastF_len f _) (ordL (NC f)).length 0 (List.replicate (ordL (NC f)).length 0) (.sl 0 [] (some 0)) [] [] _ (by omega) (by simp) (Nat.le_refl _) (SlX.nil 0) O
  rw [show ((0 : Nat) : Int) = 0 from rfl] at L
  rw [List.drop_zero] at S' O'
  change SlX A' (slotsF f (ordL (NC f))).1 o' at S'
  change Own H5 (o' ++ ((3, cellsI (slotsF f (ordL (NC f))).2, 3) :: d)) at O'
  have hsl : (slotsF f (ordL (NC f))).2.length = (ordL (NC f)).length := by unfold slotsF; rw [plF_len]; simp
  have O5 : Own H5 ((4, [B, .own 3 0 (ordL (NC f)).length 1 (some (ordL (NC f)).length), litI .i64 0], 32) :: (o' ++ [(3, cellsI (slotsF f (ordL (NC f))).2, 3), (0, f.cs, 29), (1, [.sl 0 [] (some 0), .sl 0 [] (some 0), litI .i64 0], 32), (2, [rowC (firstF (ordL (NC f))) (some (ordL (NC f)).length), rowC (lastF f (ordL (NC f))) (some (ordL (NC f)).length)], 76)])) := by
    refine O'.perm ?_
    have : o' ++ ((3, cellsI (slotsF f (ordL (NC f))).2, 3) :: d) = (o' ++ [(3, cellsI (slotsF f (ordL (NC f))).2, 3), (0, f.cs, 29), (1, [.sl 0 [] (some 0), .sl 0 [] (some 0), litI .i64 0], 32), (2, [rowC (firstF (ordL (NC f))) (some (ordL (NC f)).length), rowC (lastF f (ordL (NC f))) (some (ordL (NC f)).length)], 76)]) ++ [(4, [B, .own 3 0 (ordL (NC f)).length 1 (some (ordL (NC f)).length), litI .i64 0], 32)] := by simp [d]
    rw [this]; exact List.perm_append_comm
  have st6 : storeAt H5 1 (.ptr 4 2) (litI .i64 (slotsF f (ordL (NC f))).1.length) = some (setL H5 4 (.row [B, .own 3 0 (ordL (NC f)).length 1 (some (ordL (NC f)).length), litI .i64 (slotsF f (ordL (NC f))).1.length] 32)) := by
    rw [store_ptr O5.head (by simp) rfl rfl]; rfl
  have O6 := O5.set [B, .own 3 0 (ordL (NC f)).length 1 (some (ordL (NC f)).length), litI .i64 (slotsF f (ordL (NC f))).1.length] 32
  generalize setL H5 4 (.row [B, .own 3 0 (ordL (NC f)).length 1 (some (ordL (NC f)).length), litI .i64 (slotsF f (ordL (NC f))).1.length] 32) = H6 at st6 O6
  have l6 : Ai.load H6 (some 3) (.ptr 4 0) = some (.agg [B, .own 3 0 (ordL (NC f)).length 1 (some (ordL (NC f)).length), litI .i64 (slotsF f (ordL (NC f))).1.length]) := own_agg O6 (cs := [B, .own 3 0 (ordL (NC f)).length 1 (some (ordL (NC f)).length), litI .i64 (slotsF f (ordL (NC f))).1.length]) (t := 32) (by simp) rfl
  have g1 : H6[1]? = some (.row [.sl 0 [] (some 0), .sl 0 [] (some 0), litI .i64 0] 32) := O6.get (1, [.sl 0 [] (some 0), .sl 0 [] (some 0), litI .i64 0], 32) (by simp)
  have st7 : storeAt H6 3 (.ptr 1 0) (.agg [B, .own 3 0 (ordL (NC f)).length 1 (some (ordL (NC f)).length), litI .i64 (slotsF f (ordL (NC f))).1.length]) = some (setL H6 1 (.row [B, .own 3 0 (ordL (NC f)).length 1 (some (ordL (NC f)).length), litI .i64 (slotsF f (ordL (NC f))).1.length] 32)) := storeAt_agg g1 rfl rfl (by rw [eqB]; rfl)
  have g3 : (setL H6 1 (.row [B, .own 3 0 (ordL (NC f)).length 1 (some (ordL (NC f)).length), litI .i64 (slotsF f (ordL (NC f))).1.length] 32))[3]? = some (.row (cellsI (slotsF f (ordL (NC f))).2) 3) := by
    rw [getH_set_ne (by omega)]; exact O6.get (3, cellsI (slotsF f (ordL (NC f))).2, 3) (by simp)
  have g7 : (setL H6 1 (.row [B, .own 3 0 (ordL (NC f)).length 1 (some (ordL (NC f)).length), litI .i64 (slotsF f (ordL (NC f))).1.length] 32))[1]? = some (.row [B, .own 3 0 (ordL (NC f)).length 1 (some (ordL (NC f)).length), litI .i64 (slotsF f (ordL (NC f))).1.length] 32) := getH_set_eq g1
  generalize setL H6 1 (.row [B, .own 3 0 (ordL (NC f)).length 1 (some (ordL (NC f)).length), litI .i64 (slotsF f (ordL (NC f))).1.length] 32) = H7 at st7 g3 g7
  have lR : Ai.load H7 (some 3) (.ptr 1 0) = some (.agg [B, .own 3 0 (ordL (NC f)).length 1 (some (ordL (NC f)).length), litI .i64 (slotsF f (ordL (NC f))).1.length]) := load_agg g7 rfl
  have fz := Ord.frz_ints (H := H7) (p := 3) (k := 12) (c := some (ordL (NC f)).length) (l := (slotsF f (ordL (NC f))).2) (z := []) (t := 3) (n := (ordL (NC f)).length) (by rw [List.append_nil]; exact g3) rfl hsl.symm
  refine callV_frz (a := .tup [.agg [B, .own 3 0 (ordL (NC f)).length 1 (some (ordL (NC f)).length), litI .i64 (slotsF f (ordL (NC f))).1.length], litI .i64 0]) (H' := H7) (ids := ([] ++ ([3] ++ ([] ++ []))) ++ ([] ++ [])) rfl rfl ?_ ?_
  · refine cw_of fn16 (c := c16) rfl rfl rfl rfl ?_
    simp -implicitDefEqProofs only [c16, aW, ↓aP, makes, Nat.reduceLT, Nat.reduceEqDiff, Nat.reduceAdd, core_box, flat_f, List.length_nil, List.length_cons, lA, hoc, bne_self_eq_false, hof, st2, hB.lenV, hm1, core_build, hb3, st4, L, S'.lenV, fadr_ptr, Nat.zero_add, st6, l6, st7]
    simp only [Option.bind_some, fin, fn16, res, resL, resV, get_cons, get_nil, if_true, lR]
    rfl
  · rw [show frzF = 12 + 2 + 1 + 1 from rfl, frz]
    simp only [mapL]
    rw [frz]
    simp only [mapL, fz, Option.bind_some]
    rw [eqB]
    rfl
end Go.Proofs.Ytcgbdndkfonphaa.Ai
namespace Go.Proofs.Ytcgbdndkfonphaa.Ai
open Go Go.Ai
variable {call : CallF} {mt : MtF} {md : FuncId → Md}
def atF (n : Nat) : List Int → Nat → List Int → Option (List Int)
  | at_, _, [] => some at_
  | at_, i, v :: r => if v < 0 ∨ (n : Int) ≤ v ∨ 0 ≤ at_.getD v.toNat 0 then none else atF n (at_.set v.toNat i) (i + 1) r
theorem atF_len (n : Nat) : ∀ (r at_ : List Int) (i : Nat) (at' : List Int), atF n at_ i r = some at' → at'.length = at_.length
  | [], at_, i, at', h => by simp only [atF, Option.some.injEq] at h; rw [h]
  | v :: r, at_, i, at', h => by
    rw [atF] at h
    split at h
    · cases h
    · rw [atF_len n r _ _ at' h]; simp
def behindA (at_ : List Int) (v : Nat) (row : List Int) : Bool := !(decide (at_.getD v 0 < 0)) && !(row.any fun k => decide (at_.getD k.toNat 0 ≥ at_.getD v 0))
def needsAt (at_ : List Int) : Nat → List (List Int) → Bool
  | _, [] => true
  | v, row :: g => behindA at_ v row && needsAt at_ (v + 1) g
def orderedF (f : FlatV) (ord : List Int) : Bool := match atF f.names.length (List.replicate f.names.length (-1)) 0 ord with
  | none => false
  | some at_ => needsAt at_ 0 (NC f)
abbrev ro (n : Nat) (at_ : List Int) : List Obj1 := [(1, cellsI at_, 3), (2, [.own 1 0 n 1 (some n)], 23)]
section
variable {H : List AO} {n : Nat} {at_ : List Int} {d : List Obj1}
theorem ro_l (O : Own H (ro n at_ ++ d)) : Ai.load H none (.ptr 2 0) = some (.own 1 0 n 1 (some n)) := own_load O (cs := [.own 1 0 n 1 (some n)]) (t := 23) (by simp) rfl
theorem ro_a (O : Own H (ro n at_ ++ d)) {v : Nat} (hv : v < at_.length) : Ai.load H none (.ptr 1 v) = some (litI .i64 (at_.getD v 0)) := own_load O (cs := cellsI at_) (t := 3) (by simp) (by rw [cellsI_at, Ord.getI hv]; rfl)
theorem ro_s (O : Own H (ro n at_ ++ d)) {v : Nat} (hv : v < at_.length) (x : Int) : ∃ H', storeAt H 1 (.ptr 1 v) (litI .i64 x) = some H' ∧ Own H' (ro n (at_.set v x) ++ d) := by
  refine ⟨_, store_ptr O.head (by rw [cellsI_len]; omega) rfl rfl, ?_⟩
  have e : (cellsI at_).set v (litI .i64 x) = cellsI (at_.set v x) := by simp [cellsI]
  rw [e]; exact O.set _ 3
end
theorem od_loop0 (f1 f2 : AV) (n : Nat) (hn : n ≤ 1000000) (d : List Obj1) : ∀ (m i : Nat) (at_ : List Int) (H : List AO), m + i = n → at_.length = n → (∀ j, j < i → at_.getD j 0 = -1) → Own H (ro n at_ ++ d) →
    ∃ H', loopW (codeW cw (lookM mtl) mds c39l0) [1, 2, 5, 17, 18] [(1, f1), (2, f2), (5, .ptr 2 0), (17, litI .i64 n), (18, litI .i64 i)] H =
      some (.exit 0, [(1, f1), (2, f2), (5, .ptr 2 0), (17, litI .i64 n), (18, litI .i64 n), (19, litB false)], H') ∧ Own H' (ro n (List.replicate n (-1)) ++ d)
  | 0, i, at_, H, h, h1, h2, O => by
    have hi : i = n := by omega
    subst hi
    refine ⟨H, loopW_out ?_ (by simp), ?_⟩
    · simp -implicitDefEqProofs only [c39l0, aW, ↓aP, makes, Nat.reduceLT, Nat.reduceEqDiff, Nat.reduceAdd, Int.lt_irrefl]
    · have : at_ = List.replicate i (-1) := by
        apply List.ext_getElem (by simpa using h1)
        intro j hj _
        have := h2 j (by omega)
        rw [List.getD_eq_getElem?_getD, List.getElem?_eq_getElem hj] at this
        simpa using this
      rw [← this]; exact O
  | m + 1, i, at_, H, h, h1, h2, O => by
    have hi : i < n := by omega
    have hlt : (i : Int) < n := by omega
    obtain ⟨H1, s1, O1⟩ := ro_s O (v := i) (by omega) (-1)
    obtain ⟨H', L, O'⟩ := od_loop0 f1 f2 n hn d m (i + 1) _ H1 (by omega) (by simpa using h1) (fun j hj => by
      by_cases e : i = j
      · subst e; rw [List.getD_eq_getElem?_getD, List.getElem?_set_self (by omega)]; rfl
      · rw [List.getD_eq_getElem?_getD, List.getElem?_set_ne e, ← List.getD_eq_getElem?_getD]; exact h2 j (by omega)) O1
    have ia := iadr_ownI (r := 1) (n := n) (c := some n) (x := (i : Int)) (by omega) (by omega)
    rw [Int.toNat_natCast] at ia
    refine ⟨H', loopW_round ?_ L, O'⟩
    simp -implicitDefEqProofs only [c39l0, aW, ↓aP, makes, Nat.reduceLT, Nat.reduceEqDiff, Nat.reduceAdd, hlt, ro_l O, ia, s1, wrap1 (show i < 4611686018427387904 by omega)]
theorem od_loop1 (f2 B : AV) (ord : List Int) (hB : RowA B ord) (n : Nat) (hl : ord.length ≤ 1000000) (d : List Obj1) : ∀ (m i : Nat) (at_ : List Int) (H : List AO), m + i = ord.length → at_.length = n → Own H (ro n at_ ++ d) →
    (∀ at', atF n at_ i (ord.drop i) = some at' → ∃ H', loopW (codeW cw (lookM mtl) mds c39l1) [2, 5, 25, 26, 27] [(2, f2), (5, .ptr 2 0), (25, B), (26, litI .i64 ord.length), (27, litI .i64 i)] H =
      some (.exit 2, [(2, f2), (5, .ptr 2 0), (25, B), (26, litI .i64 ord.length), (27, litI .i64 ord.length), (28, litB false)], H') ∧ Own H' (ro n at' ++ d)) ∧
    (atF n at_ i (ord.drop i) = none → ∃ H', loopW (codeW cw (lookM mtl) mds c39l1) [2, 5, 25, 26, 27] [(2, f2), (5, .ptr 2 0), (25, B), (26, litI .i64 ord.length), (27, litI .i64 i)] H = some (.ret, [(4, litB false)], H'))
  | 0, i, at_, H, h, h1, O => by
    have hi : i = ord.length := by omega
    subst hi
    rw [List.drop_length, atF]
    refine ⟨fun at' e => ⟨H, loopW_out ?_ (by simp), ?_⟩, fun e => by cases e⟩
    · simp -implicitDefEqProofs only [c39l1, aW, ↓aP, makes, Nat.reduceLT, Nat.reduceEqDiff, Nat.reduceAdd, Int.lt_irrefl]
    · simp only [Option.some.injEq] at e; rw [← e]; exact O
  | m + 1, i, at_, H, h, h1, O => by
    have hi : i < ord.length := by omega
    have hg : ord[i]? = some ord[i] := List.getElem?_eq_getElem hi
    have hlt : (i : Int) < ord.length := by omega
    rw [List.drop_eq_getElem_cons hi, atF]
    generalize ord[i] = v at hg
    by_cases v0 : v < 0
    · rw [if_pos (.inl v0)]
      refine ⟨fun at' e => (by cases e), fun _ => ⟨H, loopW_out ?_ (by simp)⟩⟩
      simp -implicitDefEqProofs only [c39l1, aW, ↓aP, makes, Nat.reduceLT, Nat.reduceEqDiff, Nat.reduceAdd, hlt, hB.iadr hg, v0]
    by_cases v1 : (n : Int) ≤ v
    · rw [if_pos (.inr (.inl v1))]
      refine ⟨fun at' e => (by cases e), fun _ => ⟨H, loopW_out ?_ (by simp)⟩⟩
      simp -implicitDefEqProofs only [c39l1, aW, ↓aP, makes, Nat.reduceLT, Nat.reduceEqDiff, Nat.reduceAdd, hlt, hB.iadr hg, v0, ro_l O, v1]
    have ia := iadr_ownI (r := 1) (n := n) (c := some n) (x := v) (by omega) (by omega)
    have la := ro_a O (v := v.toNat) (by omega)
    by_cases v2 : 0 ≤ at_.getD v.toNat 0
    · rw [if_pos (.inr (.inr v2))]
      refine ⟨fun at' e => (by cases e), fun _ => ⟨H, loopW_out ?_ (by simp)⟩⟩
      simp -implicitDefEqProofs only [c39l1, aW, ↓aP, makes, Nat.reduceLT, Nat.reduceEqDiff, Nat.reduceAdd, hlt, hB.iadr hg, v0, ro_l O, v1, ia, la, v2]
    · rw [if_neg (by omega)]
      obtain ⟨H1, s1, O1⟩ := ro_s O (v := v.toNat) (by omega) i
      obtain ⟨X, Y⟩ := od_loop1 f2 B ord hB n hl d m (i + 1) _ H1 (by omega) (by simpa using h1) O1
      have R : codeW cw (lookM mtl) mds c39l1 [(2, f2), (5, .ptr 2 0), (25, B), (26, litI .i64 ord.length), (27, litI .i64 i)] H = some (.normal, [(2, f2), (5, .ptr 2 0), (25, B), (26, litI .i64 ord.length), (27, litI .i64 (i + 1 : Nat))], H1) := by
        simp -implicitDefEqProofs only [c39l1, aW, ↓aP, makes, Nat.reduceLT, Nat.reduceEqDiff, Nat.reduceAdd, hlt, hB.iadr hg, v0, ro_l O, v1, ia, la, v2, s1, wrap1 (show i < 4611686018427387904 by omega)]
      refine ⟨fun at' e => ?_, fun e => ?_⟩
      · obtain ⟨H', L, O'⟩ := X at' e
        exact ⟨H', loopW_round R L, O'⟩
      · obtain ⟨H', L⟩ := Y e
        exact ⟨H', loopW_round R L⟩
theorem late68_call {H : List AO} {n v r : Nat} {at_ : List Int} {d : List Obj1} (O : Own H (ro n at_ ++ d)) (hl : at_.length = n) (hr : Ai.load H none (.ptr r 0) = some (litI .i64 v)) (hv : v < n) {k : Int} (hk : 0 ≤ k ∧ k < (n : Int)) (id : Nat) :
    fnV cw mds (.fn (.func 68) [] [.ptr 2 0, .ptr r 0]) [litI .i64 k] H id = some (.wr (litB (decide (at_.getD k.toNat 0 ≥ at_.getD v 0))) H) := by
  show callV cw mds 68 [litI .i64 k, .ptr 2 0, .ptr r 0] H id = _
  refine callV_same rfl (cw_of fn68 (c := c68) rfl rfl rfl rfl ?_) rfl
  have ia := iadr_ownI (r := 1) (n := n) (c := some n) (x := k) (by omega) (by omega)
  have ib := iadr_ownI (r := 1) (n := n) (c := some n) (x := (v : Int)) (by omega) (by omega)
  rw [Int.toNat_natCast] at ib
  have la := ro_a O (v := k.toNat) (by omega)
  have lb := ro_a O (v := v) (by omega)
  simp -implicitDefEqProofs only [c68, aW, ↓aP, makes, Nat.reduceLT, Nat.reduceEqDiff, Nat.reduceAdd, ro_l O, hr, ia, ib, la, lb]
  rfl
theorem od_loop2 (g : List (List Int)) (cs : Nat → Option Nat) (cc : Option Nat) (n : Nat) (hgn : g.length = n) (hn : n ≤ 1000000) (hl : ∀ r ∈ g, r.length ≤ 1000000) (hr : ∀ r ∈ g, ∀ x ∈ r, 0 ≤ x ∧ x < (n : Int)) (at_ : List Int) (ha : at_.length = n) (d : List Obj1) : ∀ (m i : Nat) (H : List AO), m + i = g.length → Own H (ro n at_ ++ d) →
    ∃ H', loopW (codeW cw (lookM mtl) mds c39l2) [5, 53, 54, 55] [(5, .ptr 2 0), (53, Ord.gX cs cc g), (54, litI .i64 g.length), (55, litI .i64 i)] H =
      some (if needsAt at_ i (g.drop i) = true then (.exit 4, [(5, .ptr 2 0), (53, Ord.gX cs cc g), (54, litI .i64 g.length), (55, litI .i64 g.length), (56, litB false)], H') else (.ret, [(4, litB false)], H'))
  | 0, i, H, h, O => by
    have hi : i = g.length := by omega
    subst hi
    rw [List.drop_length, needsAt]
    refine ⟨H, ?_⟩
    rw [if_pos rfl]
    refine loopW_out ?_ (by simp)
    simp -implicitDefEqProofs only [c39l2, aW, ↓aP, makes, Nat.reduceLT, Nat.reduceEqDiff, Nat.reduceAdd, Int.lt_irrefl]
  | m + 1, i, H, h, O => by
    have hi : i < g.length := by omega
    have hg : g[i]? = some g[i] := List.getElem?_eq_getElem hi
    have hlt : (i : Int) < g.length := by omega
    have hx := hr _ (List.getElem_mem hi)
    have hll := hl _ (List.getElem_mem hi)
    rw [List.drop_eq_getElem_cons hi, needsAt]
    generalize g[i] = row at hg hx hll
    have O1 : Own (H ++ [.row [litI .i64 i] 3]) (ro n at_ ++ ((H.length, [litI .i64 i], 3) :: d)) := own_newM O _ 3
    have stb : storeAt (H ++ [.row [litI .i64 0] 3]) 1 (.ptr H.length 0) (litI .i64 i) = some (H ++ [.row [litI .i64 i] 3]) := by
      rw [store_ptr (get_last H _) (by simp) rfl rfl, setL_last]; rfl
    have lb : Ai.load (H ++ [.row [litI .i64 i] 3]) none (.ptr H.length 0) = some (litI .i64 i) := own_load O1 (cs := [litI .i64 i]) (t := 3) (by simp) rfl
    have ib := iadr_ownI (r := 1) (n := n) (c := some n) (x := (i : Int)) (by omega) (by omega)
    rw [Int.toNat_natCast] at ib
    have lv := ro_a O1 (v := i) (by omega)
    have hc := fun id => contains38r_call (rowC row (cs i)) row (fun k => decide (at_.getD k.toNat 0 ≥ at_.getD i 0)) (.fn (.func 68) [] [.ptr 2 0, .ptr H.length 0]) _ (reads_row (RowA.of row _)) (fun x hxm id => late68_call O1 ha lb (by omega) (hx x hxm) id) hll id
    have hw := wrap1 (show i < 4611686018427387904 by omega)
    have O2 : Own (H ++ [.row [litI .i64 i] 3]) (ro n at_ ++ d) := O.app _
    unfold behindA
    by_cases v0 : at_.getD i 0 < 0
    · refine ⟨H ++ [.row [litI .i64 i] 3], ?_⟩
      · rw [if_neg (by rw [decide_eq_true v0]; simp)]
        refine loopW_out ?_ (by simp)
        simp -implicitDefEqProofs only [c39l2, aW, ↓aP, makes, Nat.reduceLT, Nat.reduceEqDiff, Nat.reduceAdd, hlt, Ord.iadr_gX, hg, stb, core_mkf, ro_l O1, lb, ib, lv, v0]
    · cases hany : row.any (fun k => decide (at_.getD k.toNat 0 ≥ at_.getD i 0)) with
      | true =>
        rw [hany] at hc
        refine ⟨H ++ [.row [litI .i64 i] 3], ?_⟩
        · rw [if_neg (by simp)]
          refine loopW_out ?_ (by simp)
          simp -implicitDefEqProofs only [c39l2, aW, ↓aP, makes, Nat.reduceLT, Nat.reduceEqDiff, Nat.reduceAdd, hlt, Ord.iadr_gX, hg, stb, core_mkf, ro_l O1, lb, ib, lv, v0, hc]
      | false =>
        rw [hany] at hc
        obtain ⟨H', L⟩ := od_loop2 g cs cc n hgn hn hl hr at_ ha d m (i + 1) _ (by omega) O2
        refine ⟨H', ?_⟩
        rw [show (!decide (at_.getD i 0 < 0) && !false && needsAt at_ (i + 1) (g.drop (i + 1))) = needsAt at_ (i + 1) (g.drop (i + 1)) by rw [decide_eq_false v0]; rfl]
        refine loopW_round ?_ L
        simp -implicitDefEqProofs only [c39l2, aW, ↓aP, makes, Nat.reduceLT, Nat.reduceEqDiff, Nat.reduceAdd, hlt, Ord.iadr_gX, hg, stb, core_mkf, ro_l O1, lb, ib, lv, v0, hc, hw]
theorem ordered_call (f : FlatV) (F : FitsS f) (hG : goodOk f = true) {B : AV} {ord : List Int} (hB : RowA B ord) (hl : ord.length ≤ 1000000) (H : List AO) (id : Nat) :
    callV cw mds 39 [flatA f, B] H id = some (.val (litB (orderedF f ord)) none) := by
  have G := goodF_of hG
  have hnn := F.names
  have hN : ∀ H id, callV cw mds 54 [.agg f.cs] H id = some (.val (ncA f) none) := needs54_call f F hG
  have l1 : Ai.load [.row f.cs 29] none (.ptr 0 1) = some (strs f.names) := rfl
  have hm1 := mksV_ok (id := 1) (e := 1) (bytes := 8) (z := [litI .i64 0]) (t := 3) (n := f.names.length) (by omega) (by omega)
  rw [reps_one] at hm1
  have st : storeAt [.row f.cs 29, .row (List.replicate f.names.length (litI .i64 0)) 3, .row [.sl 0 [] (some 0)] 23] 1 (.ptr 2 0) (.own 1 0 f.names.length 1 (some f.names.length)) = some [.row f.cs 29, .row (List.replicate f.names.length (litI .i64 0)) 3, .row [.own 1 0 f.names.length 1 (some f.names.length)] 23] := rfl
  have l5 : Ai.load [.row f.cs 29, .row (List.replicate f.names.length (litI .i64 0)) 3, .row [.own 1 0 f.names.length 1 (some f.names.length)] 23] none (.ptr 2 0) = some (.own 1 0 f.names.length 1 (some f.names.length)) := rfl
  have hz : cellsI (List.replicate f.names.length 0) = List.replicate f.names.length (litI .i64 0) := by simp [cellsI]
  have O : Own ([.row f.cs 29, .row (List.replicate f.names.length (litI .i64 0)) 3, .row [.own 1 0 f.names.length 1 (some f.names.length)] 23] : List AO) (ro f.names.length (List.replicate f.names.length 0) ++ [(0, f.cs, 29)]) := by
    unfold ro
    rw [hz]
    refine ⟨by simp, fun x hx => ?_⟩
    simp only [List.cons_append, List.nil_append, List.mem_cons, List.not_mem_nil, or_false] at hx
    rcases hx with rfl | rfl | rfl <;> rfl
  obtain ⟨H1, L0, O1⟩ := od_loop0 B (.ptr 0 0) f.names.length (by omega) _ f.names.length 0 _ _ (by omega) (by simp) (fun j hj => by omega) O
  rw [show ((0 : Nat) : Int) = 0 from rfl] at L0
  obtain ⟨X, Y⟩ := od_loop1 (.ptr 0 0) B ord hB f.names.length hl _ ord.length 0 _ H1 (by omega) (by simp) O1
  rw [show ((0 : Nat) : Int) = 0 from rfl, List.drop_zero] at X Y
  have hw : [flatA f, B].all wholeA = true := by obtain ⟨e, xs, c, rfl⟩ := hB.cases; rfl
  unfold orderedF
  cases ha : atF f.names.length (List.replicate f.names.length (-1)) 0 ord with
  | none =>
    obtain ⟨H2, L1⟩ := Y ha
    refine callV_pureA rfl hw (H' := H2) ?_ rfl
    refine cw_of fn39 (c := c39) rfl rfl rfl rfl ?_
    simp -implicitDefEqProofs only [c39, aW, ↓aP, makes, Nat.reduceLT, Nat.reduceEqDiff, Nat.reduceAdd, core_box, flat_f, List.length_nil, List.length_cons, fadr_ptr, Nat.zero_add, l1, lenV_strs, hm1, st, l5, L0, hB.lenV, L1]
    rfl
  | some at_ =>
    obtain ⟨H2, L1, O2⟩ := X at_ ha
    have hal := atF_len _ _ _ _ _ ha
    rw [List.length_replicate] at hal
    have lA : Ai.load H2 (some 8) (.ptr 0 0) = some (.agg f.cs) := own_agg O2 (cs := f.cs) (t := 29) (by simp) rfl
    obtain ⟨H3, L2⟩ := od_loop2 (NC f) (fun _ => none) (some f.names.length) f.names.length (NC_len f) (by omega) (fun r hr => by have := NC_60 f F G r hr; omega) (NC_rng f F G) at_ hal _ (NC f).length 0 H2 (by omega) O2
    rw [show ((0 : Nat) : Int) = 0 from rfl, List.drop_zero] at L2
    simp only
    refine callV_pureA rfl hw (H' := H3) ?_ rfl
    refine cw_of fn39 (c := c39) rfl rfl rfl rfl ?_
    cases hn : needsAt at_ 0 (NC f) with
    | true =>
      rw [if_pos hn] at L2
      simp -implicitDefEqProofs only [c39, aW, ↓aP, makes, Nat.reduceLT, Nat.reduceEqDiff, Nat.reduceAdd, core_box, flat_f, List.length_nil, List.length_cons, fadr_ptr, Nat.zero_add, l1, lenV_strs, hm1, st, l5, L0, hB.lenV, L1, lA, hN, Ord.lenV_gX, L2]
      rfl
    | false =>
      rw [if_neg (by rw [hn]; simp)] at L2
      simp -implicitDefEqProofs only [c39, aW, ↓aP, makes, Nat.reduceLT, Nat.reduceEqDiff, Nat.reduceAdd, core_box, flat_f, List.length_nil, List.length_cons, fadr_ptr, Nat.zero_add, l1, lenV_strs, hm1, st, l5, L0, hB.lenV, L1, lA, hN, Ord.lenV_gX, L2]
      rfl
end Go.Proofs.Ytcgbdndkfonphaa.Ai
namespace Go.Proofs.Ytcgbdndkfonphaa.Ai
open Go Go.Ai
variable {call : CallF} {mt : MtF} {md : FuncId → Md}
theorem core_lkp {H : List AO} {id : Nat} {fr : Fr} (kk : KK) (ok : Bool) (z : AV) (m x : X) : core call mt md H id (.lkp kk ok z m x) fr = valO (lkpV H kk ok z (ev fr m) (ev fr x)) := rfl
theorem core_mup {H : List AO} {id : Nat} {fr : Fr} (kk : KK) (m k x : X) : core call mt md H id (.mup kk m k x) fr = wrO .any (mupH H kk (ev fr m) (ev fr k) (ev fr x)) := rfl
theorem core_mkm {H : List AO} {id : Nat} {fr : Fr} : core call mt md H id .mkm fr = some (.val (.mpv id) (some (.mp []))) := rfl
def mpE (L : List (Int × Int)) : List (Value × AV) := L.map fun p => (.int .i64 p.1, litI .i64 p.2)
def findL (k : Int) : List (Int × Int) → Nat → Option (Nat × Int)
  | [], _ => none
  | p :: r, i => if p.1 = k then some (i, p.2) else findL k r (i + 1)
def lookL (L : List (Int × Int)) (k : Int) : Option Int := (findL k L 0).map (·.2)
theorem findK_int (k : Int) : ∀ (L : List (Int × Int)) (i : Nat), findK (.int .i64) (.int .i64 k) (mpE L) i = some ((findL k L i).map fun p => (p.1, litI .i64 p.2))
  | [], _ => rfl
  | p :: r, i => by
    simp only [mpE, List.map_cons, findK, findL]
    have hs : sameK (.int .i64) (.int .i64 k) (.int .i64 p.1) = some (decide (p.1 = k)) := by
      have h0 : sameK (.int .i64) (.int .i64 k) (.int .i64 p.1) = some (k == p.1) := rfl
      rw [h0]
      congr 1
      rw [Bool.eq_iff_iff, beq_iff_eq, decide_eq_true_eq]
      exact eq_comm
    rw [hs]
    by_cases h : p.1 = k
    · simp only [h, decide_true, if_true, Option.map_some]
    · simp only [h, decide_false, if_false]
      exact findK_int k r (i + 1)
theorem findL_spec (k : Int) : ∀ (L : List (Int × Int)) (i : Nat), (findL k L i = none ∧ ∀ p ∈ L, p.1 ≠ k) ∨ ∃ j x, findL k L i = some (i + j, x) ∧ L[j]? = some (k, x) ∧ ∀ p ∈ L.take j, p.1 ≠ k
  | [], _ => .inl ⟨rfl, by simp⟩
  | p :: r, i => by
    rw [findL]
    by_cases h : p.1 = k
    · right
      refine ⟨0, p.2, by rw [if_pos h]; rfl, by simp [← h], by simp⟩
    · rw [if_neg h]
      rcases findL_spec k r (i + 1) with ⟨h1, h2⟩ | ⟨j, x, h1, h2, h3⟩
      · left
        refine ⟨h1, fun q hq => ?_⟩
        rcases List.mem_cons.1 hq with rfl | hq
        · exact h
        · exact h2 q hq
      · right
        refine ⟨j + 1, x, by rw [h1]; congr 2; omega, by simpa using h2, fun q hq => ?_⟩
        rw [List.take_succ_cons] at hq
        rcases List.mem_cons.1 hq with rfl | hq
        · exact h
        · exact h3 q hq
theorem findL_skip (k : Int) : ∀ (L M : List (Int × Int)) (i : Nat), (∀ p ∈ L, p.1 ≠ k) → findL k (L ++ M) i = findL k M (i + L.length)
  | [], _, _, _ => by simp
  | p :: r, M, i, h => by
    rw [List.cons_append, findL, if_neg (h p (List.mem_cons_self ..)), findL_skip k r M (i + 1) fun q hq => h q (List.mem_cons_of_mem _ hq)]
    congr 1; simp; omega
def MapIs (L : List (Int × Int)) (m : Int → Option Int) : Prop := ∀ k, lookL L k = m k
theorem keyOf_int (k : Int) : Ai.keyOf (.int .i64) (litI .i64 k) = some (.int .i64 k) := rfl
theorem lkp_int {H : List AO} {r : Nat} {L : List (Int × Int)} {m : Int → Option Int} (h : H[r]? = some (.mp (mpE L))) (M : MapIs L m) (k : Int) :
    lkpV H (.int .i64) true (litI .i64 0) (.mpv r) (litI .i64 k) = some (match m k with | some x => .tup [litI .i64 x, litB true] | none => .tup [litI .i64 0, litB false]) := by
  have h0 := M k
  unfold lookL at h0
  simp only [lkpV, mapAt, h, Option.bind_some, keyOf_int, findK_int]
  cases hf : findL k L 0 with
  | none => rw [hf] at h0; simp only [Option.map_none] at h0; rw [← h0]; rfl
  | some p => rw [hf] at h0; simp only [Option.map_some] at h0; rw [← h0]; rfl
theorem mup_int {H : List AO} {r : Nat} {L : List (Int × Int)} {m : Int → Option Int} (h : H[r]? = some (.mp (mpE L))) (M : MapIs L m) (k x : Int) :
    ∃ L', mupH H (.int .i64) (.mpv r) (litI .i64 k) (litI .i64 x) = some (setL H r (.mp (mpE L'))) ∧ MapIs L' fun j => if j = k then some x else m j := by
  rcases findL_spec k L 0 with ⟨h1, h2⟩ | ⟨j, y, h1, h2, h3⟩
  · refine ⟨L ++ [(k, x)], ?_, fun j => ?_⟩
    · simp only [mupH, mapAt, h, Option.bind_some, keyOf_int, findK_int, h1, Option.map_none]
      simp [mpE]
    · by_cases e : j = k
      · subst e
        unfold lookL
        rw [findL_skip j L _ 0 h2]; simp [findL]
      · simp only [e, if_false]
        rw [← M j]
        unfold lookL
        rcases findL_spec j L 0 with ⟨k1, k2⟩ | ⟨i, z, k1, k2, k3⟩
        · rw [findL_skip j L _ 0 k2, k1]; simp [findL, Ne.symm e]
        · have hs : L = L.take i ++ (j, z) :: L.drop (i + 1) := by
            have hlt := (List.getElem?_eq_some_iff.1 k2).1
            have := List.drop_eq_getElem_cons hlt
            rw [(List.getElem?_eq_some_iff.1 k2).2] at this
            rw [← this, List.take_append_drop]
          rw [k1]
          rw [hs, List.append_assoc, findL_skip j _ _ 0 k3]
          simp [findL]
  · rw [Nat.zero_add] at h1
    have hlt := (List.getElem?_eq_some_iff.1 h2).1
    have hs : L = L.take j ++ (k, y) :: L.drop (j + 1) := by
      have := List.drop_eq_getElem_cons hlt
      rw [(List.getElem?_eq_some_iff.1 h2).2] at this
      rw [← this, List.take_append_drop]
    have hset : L.set j (k, x) = L.take j ++ (k, x) :: L.drop (j + 1) := by
      rw [List.set_eq_take_append_cons_drop, if_pos hlt]
    refine ⟨L.set j (k, x), ?_, fun i => ?_⟩
    · simp only [mupH, mapAt, h, Option.bind_some, keyOf_int, findK_int, h1, Option.map_some]
      simp [mpE, List.map_set]
    · by_cases e : i = k
      · subst e
        unfold lookL
        rw [hset, findL_skip i _ _ 0 h3]; simp [findL]
      · simp only [e, if_false]
        rw [← M i]
        rcases findL_spec i (L.take j) 0 with ⟨k1, k2⟩ | ⟨a, z, k1, k2, k3⟩
        · unfold lookL
          rw [hset, findL_skip i _ _ 0 k2]
          conv => rhs; rw [hs, findL_skip i _ _ 0 k2]
          simp [findL, Ne.symm e]
        · have hsp : L.take j = (L.take j).take a ++ (i, z) :: (L.take j).drop (a + 1) := by
            have hlt := (List.getElem?_eq_some_iff.1 k2).1
            have := List.drop_eq_getElem_cons hlt
            rw [(List.getElem?_eq_some_iff.1 k2).2] at this
            rw [← this, List.take_append_drop]
          unfold lookL
          rw [hset, hsp, List.append_assoc, findL_skip i _ _ 0 k3]
          conv => rhs; rw [hs, hsp, List.append_assoc, findL_skip i _ _ 0 k3]
          simp [findL]
end Go.Proofs.Ytcgbdndkfonphaa.Ai
namespace Go.Proofs.Ytcgbdndkfonphaa.Ai
open Go Go.Ai
variable {call : CallF} {mt : MtF} {md : FuncId → Md}
def liesOk (last slots : List Int) : Nat → List Int → (Int → Option Int) → Bool
  | _, [], _ => true
  | i, v :: r, m => (match m (slots.getD v.toNat 0) with | some old => decide (last.getD old.toNat 0 < (i : Int)) | none => true) &&
    liesOk last slots (i + 1) r fun j => if j = slots.getD v.toNat 0 then some v else m j
def rightF (f : FlatV) (ord slots : List Int) (m : Int) : Bool :=
  goodOk f && ((ord.length : Int) == (f.names.length : Int)) && ((slots.length : Int) == (f.names.length : Int)) && !(slots.any fun s => decide (s < 0) || decide (s ≥ m)) && orderedF f ord && liesOk (lastF f ord) slots 0 ord fun _ => none
theorem strange36_call {H : List AO} {O S : AV} {m : Int} (h : H[1]? = some (.row [O, S, litI .i64 m] 32)) (x : Int) (id : Nat) :
    fnV cw mds (.fn (.func 36) [] [.ptr 1 0]) [litI .i64 x] H id = some (.wr (litB (decide (x < 0) || decide (x ≥ m))) H) := by
  show callV cw mds 36 [litI .i64 x, .ptr 1 0] H id = _
  refine callV_same rfl (cw_of fn36 (c := c36) rfl rfl rfl rfl ?_) rfl
  have l2 : Ai.load H none (.ptr 1 2) = some (litI .i64 m) := by rw [load_ptr h]; rfl
  by_cases h0 : x < 0
  · simp -implicitDefEqProofs only [c36, aW, ↓aP, makes, Nat.reduceLT, Nat.reduceEqDiff, Nat.reduceAdd, h0]
    rfl
  · simp -implicitDefEqProofs only [c36, aW, ↓aP, makes, Nat.reduceLT, Nat.reduceEqDiff, Nat.reduceAdd, h0, fadr_ptr, Nat.zero_add, l2]
    rfl
def rgH (f : FlatV) (O S : AV) (m : Int) (first last : List Int) (c1 c2 : Option Nat) (L : List (Int × Int)) : List AO := [.row f.cs 29, .row [O, S, litI .i64 m] 32, .row [rowC first c1, rowC last c2] 76, .mp (mpE L)]
theorem rg_loop (f : FlatV) (O S : AV) (ord slots : List Int) (hO : RowA O ord) (hS : RowA S slots) (mm : Int) (first last : List Int) (c1 c2 : Option Nat) (n : Nat) (hl : ord.length ≤ 1000000) (hsl : slots.length = n) (hll : last.length = n) (hr : ∀ x ∈ ord, 0 ≤ x ∧ x < (n : Int)) : ∀ (k i : Nat) (L : List (Int × Int)) (m : Int → Option Int), k + i = ord.length → MapIs L m → (∀ j x, m j = some x → 0 ≤ x ∧ x < (n : Int)) →
    ∃ H', loopW (codeW cw (lookM mtl) mds c19l0) [3, 7, 8, 53, 54, 55] [(3, .ptr 1 0), (7, .ptr 2 0), (8, .mpv 3), (53, O), (54, litI .i64 ord.length), (55, litI .i64 i)] (rgH f O S mm first last c1 c2 L) =
      some (if liesOk last slots i (ord.drop i) m = true then (.exit 0, [(3, .ptr 1 0), (7, .ptr 2 0), (8, .mpv 3), (53, O), (54, litI .i64 ord.length), (55, litI .i64 ord.length), (56, litB false)], H') else (.ret, [(4, litB false)], H'))
  | 0, i, L, m, h, M, hm => by
    have hi : i = ord.length := by omega
    subst hi
    rw [List.drop_length, liesOk]
    refine ⟨rgH f O S mm first last c1 c2 L, ?_⟩
    rw [if_pos rfl]
    refine loopW_out ?_ (by simp)
    simp -implicitDefEqProofs only [c19l0, aW, ↓aP, makes, Nat.reduceLT, Nat.reduceEqDiff, Nat.reduceAdd, Int.lt_irrefl]
  | k + 1, i, L, m, h, M, hm => by
    have hi : i < ord.length := by omega
    have hg : ord[i]? = some ord[i] := List.getElem?_eq_getElem hi
    have hlt : (i : Int) < ord.length := by omega
    have hx := hr _ (List.getElem_mem hi)
    rw [List.drop_eq_getElem_cons hi, liesOk]
    generalize ord[i] = v at hg hx
    have lS : Ai.load (rgH f O S mm first last c1 c2 L) none (.ptr 1 1) = some S := rfl
    have lL : Ai.load (rgH f O S mm first last c1 c2 L) none (.ptr 2 1) = some (rowC last c2) := rfl
    have iS : iadr 1 S (litI .i64 v) = some (.ip [litI .i64 (slots.getD v.toNat 0)]) := by
      have := hS.iadr (n := v.toNat) (x := slots.getD v.toNat 0) (Ord.getI (by omega))
      rw [Int.toNat_of_nonneg hx.1] at this
      exact this
    have hk := lkp_int (H := rgH f O S mm first last c1 c2 L) (r := 3) rfl M (slots.getD v.toNat 0)
    obtain ⟨L', hu, M'⟩ := mup_int (H := rgH f O S mm first last c1 c2 L) (r := 3) rfl M (slots.getD v.toNat 0) v
    rw [show setL (rgH f O S mm first last c1 c2 L) 3 (.mp (mpE L')) = rgH f O S mm first last c1 c2 L' from rfl] at hu
    obtain ⟨H', ih⟩ := rg_loop f O S ord slots hO hS mm first last c1 c2 n hl hsl hll hr k (i + 1) L' _ (by omega) M' (fun j x hj => by
      by_cases e : j = slots.getD v.toNat 0
      · rw [if_pos e] at hj; simp only [Option.some.injEq] at hj; rw [← hj]; exact hx
      · rw [if_neg e] at hj; exact hm j x hj)
    have hw := wrap1 (show i < 4611686018427387904 by omega)
    cases hmk : m (slots.getD v.toNat 0) with
    | none =>
      rw [hmk] at hk
      refine ⟨H', ?_⟩
      rw [Bool.true_and]
      refine loopW_round ?_ ih
      simp -implicitDefEqProofs only [c19l0, aW, ↓aP, makes, Nat.reduceLT, Nat.reduceEqDiff, Nat.reduceAdd, hlt, hO.iadr hg, fadr_ptr, Nat.zero_add, lS, iS, load_ip1, core_lkp, core_mup, hk, hu, hw]
    | some old =>
      rw [hmk] at hk
      have ho := hm _ old hmk
      have iL : iadr 1 (rowC last c2) (litI .i64 old) = some (.ip [litI .i64 (last.getD old.toNat 0)]) := by
        have := iadr_row last c2 old.toNat
        rw [Int.toNat_of_nonneg ho.1, Ord.getI (by omega)] at this
        exact this
      by_cases hge : last.getD old.toNat 0 ≥ (i : Int)
      · have hlt2 : ¬ last.getD old.toNat 0 < (i : Int) := by omega
        refine ⟨rgH f O S mm first last c1 c2 L, ?_⟩
        simp only [decide_eq_false hlt2, Bool.false_and]
        rw [if_neg (by simp)]
        refine loopW_out ?_ (by simp)
        simp -implicitDefEqProofs only [c19l0, aW, ↓aP, makes, Nat.reduceLT, Nat.reduceEqDiff, Nat.reduceAdd, hlt, hO.iadr hg, fadr_ptr, Nat.zero_add, lS, iS, load_ip1, core_lkp, core_mup, hk, lL, iL, hge]
      · have hlt2 : last.getD old.toNat 0 < (i : Int) := by omega
        refine ⟨H', ?_⟩
        simp only [decide_eq_true hlt2, Bool.true_and]
        refine loopW_round ?_ ih
        simp -implicitDefEqProofs only [c19l0, aW, ↓aP, makes, Nat.reduceLT, Nat.reduceEqDiff, Nat.reduceAdd, hlt, hO.iadr hg, fadr_ptr, Nat.zero_add, lS, iS, load_ip1, core_lkp, core_mup, hk, lL, iL, hge, hu, hw]
theorem atF_rng (n : Nat) : ∀ (r at_ : List Int) (i : Nat) (at' : List Int), atF n at_ i r = some at' → ∀ x ∈ r, 0 ≤ x ∧ x < (n : Int)
  | [], _, _, _, _ => by simp
  | v :: r, at_, i, at', h => by
    rw [atF] at h
    split at h
    · cases h
    · rename_i hc
      intro x hx
      rcases List.mem_cons.1 hx with rfl | hx
      · omega
      · exact atF_rng n r _ _ at' h x hx
theorem pright_call (f : FlatV) (F : FitsS f) {O S : AV} {ord slots : List Int} (hO : RowA O ord) (hS : RowA S slots) (hlo : ord.length ≤ 1000000) (hls : slots.length ≤ 1000000) (m : Int) (H : List AO) (id : Nat) :
    callV cw mds 19 [flatA f, planA O S m] H id = some (.val (litB (rightF f ord slots m)) none) := by
  obtain ⟨eO, xO, cO, eqO⟩ := hO.cases
  obtain ⟨eS, xS, cS, eqS⟩ := hS.cases
  have hw : [flatA f, planA O S m].all wholeA = true := by rw [eqO, eqS]; rfl
  suffices hs : ∃ H', cw 19 [flatA f, planA O S m] [] = some (.ret (litB (rightF f ord slots m)), H') by
    obtain ⟨H', h⟩ := hs
    exact callV_pureA rfl hw h rfl
  have hgc : ∀ H id, callV cw mds 37 [.agg f.cs] H id = some (.val (litB (goodOk f)) none) := fun H id => good_call f F.fits H id
  have hb : ∀ id, boxV id 3 (planA O S m) 32 = some (.val (.ptr id 0) (some (.row [O, S, litI .i64 m] 32))) := fun id => boxV_agg rfl (by simp [hO.cell.1, hS.cell.1]; rfl)
  have lA : Ai.load [.row f.cs 29, .row [O, S, litI .i64 m] 32] (some 8) (.ptr 0 0) = some (.agg f.cs) := load_agg rfl rfl
  have l1 : Ai.load [.row f.cs 29, .row [O, S, litI .i64 m] 32] none (.ptr 0 1) = some (strs f.names) := rfl
  have k0 : Ai.load [.row f.cs 29, .row [O, S, litI .i64 m] 32] none (.ptr 1 0) = some O := rfl
  have k1 : Ai.load [.row f.cs 29, .row [O, S, litI .i64 m] 32] none (.ptr 1 1) = some S := rfl
  unfold rightF
  cases hG : goodOk f with
  | false =>
    rw [hG] at hgc
    refine ⟨_, cw_of fn19 (c := c19) (r := (.ret (litB false), [.row f.cs 29, .row [O, S, litI .i64 m] 32])) rfl rfl rfl rfl ?_⟩
    simp -implicitDefEqProofs only [c19, aW, ↓aP, makes, Nat.reduceLT, Nat.reduceEqDiff, Nat.reduceAdd, core_box, flat_f, hb, List.length_nil, List.length_cons, fadr_ptr, Nat.zero_add, l1, lenV_strs, core_mkf, lA, hgc]
    rfl
  | true =>
  rw [hG] at hgc
  cases e1 : ((ord.length : Int) == (f.names.length : Int)) with
  | false =>
    have e1' : ((ord.length : Int) != (f.names.length : Int)) = true := by rw [bne, e1]; rfl
    refine ⟨_, cw_of fn19 (c := c19) (r := (.ret (litB false), [.row f.cs 29, .row [O, S, litI .i64 m] 32])) rfl rfl rfl rfl ?_⟩
    simp -implicitDefEqProofs only [c19, aW, ↓aP, makes, Nat.reduceLT, Nat.reduceEqDiff, Nat.reduceAdd, core_box, flat_f, hb, List.length_nil, List.length_cons, fadr_ptr, Nat.zero_add, l1, lenV_strs, core_mkf, lA, hgc, k0, hO.lenV, e1']
    rfl
  | true =>
  have e1' : ((ord.length : Int) != (f.names.length : Int)) = false := by rw [bne, e1]; rfl
  cases e2 : ((slots.length : Int) == (f.names.length : Int)) with
  | false =>
    have e2' : ((slots.length : Int) != (f.names.length : Int)) = true := by rw [bne, e2]; rfl
    refine ⟨_, cw_of fn19 (c := c19) (r := (.ret (litB false), [.row f.cs 29, .row [O, S, litI .i64 m] 32])) rfl rfl rfl rfl ?_⟩
    simp -implicitDefEqProofs only [c19, aW, ↓aP, makes, Nat.reduceLT, Nat.reduceEqDiff, Nat.reduceAdd, core_box, flat_f, hb, List.length_nil, List.length_cons, fadr_ptr, Nat.zero_add, l1, lenV_strs, core_mkf, lA, hgc, k0, hO.lenV, e1', k1, hS.lenV, e2']
    rfl
  | true =>
  have e2' : ((slots.length : Int) != (f.names.length : Int)) = false := by rw [bne, e2]; rfl
  have hc := fun id => contains38r_call S slots (fun s => decide (s < 0) || decide (s ≥ m)) (.fn (.func 36) [] [.ptr 1 0]) [.row f.cs 29, .row [O, S, litI .i64 m] 32] (reads_row hS) (fun x _ id => strange36_call rfl x id) hls id
  cases e3 : slots.any (fun s => decide (s < 0) || decide (s ≥ m)) with
  | true =>
    rw [e3] at hc
    refine ⟨_, cw_of fn19 (c := c19) (r := (.ret (litB false), [.row f.cs 29, .row [O, S, litI .i64 m] 32])) rfl rfl rfl rfl ?_⟩
    simp -implicitDefEqProofs only [c19, aW, ↓aP, makes, Nat.reduceLT, Nat.reduceEqDiff, Nat.reduceAdd, core_box, flat_f, hb, List.length_nil, List.length_cons, fadr_ptr, Nat.zero_add, l1, lenV_strs, core_mkf, lA, hgc, k0, hO.lenV, e1', k1, hS.lenV, e2', hc]
    rfl
  | false =>
  rw [e3] at hc
  have hod : ∀ H id, callV cw mds 39 [.agg f.cs, O] H id = some (.val (litB (orderedF f ord)) none) := fun H id => ordered_call f F hG hO hlo H id
  cases e4 : orderedF f ord with
  | false =>
    rw [e4] at hod
    refine ⟨_, cw_of fn19 (c := c19) (r := (.ret (litB false), [.row f.cs 29, .row [O, S, litI .i64 m] 32])) rfl rfl rfl rfl ?_⟩
    simp -implicitDefEqProofs only [c19, aW, ↓aP, makes, Nat.reduceLT, Nat.reduceEqDiff, Nat.reduceAdd, core_box, flat_f, hb, List.length_nil, List.length_cons, fadr_ptr, Nat.zero_add, l1, lenV_strs, core_mkf, lA, hgc, k0, hO.lenV, e1', k1, hS.lenV, e2', hc, hod]
    rfl
  | true =>
  rw [e4] at hod
  have hol : ord.length = f.names.length := by have := eq_of_beq e1; omega
  have hsl : slots.length = f.names.length := by have := eq_of_beq e2; omega
  have hr : ∀ x ∈ ord, 0 ≤ x ∧ x < (f.names.length : Int) := by
    unfold orderedF at e4
    cases ha : atF f.names.length (List.replicate f.names.length (-1)) 0 ord with
    | none => rw [ha] at e4; cases e4
    | some at_ => exact atF_rng _ _ _ _ at_ ha
  have hof : ∀ H id, callV cw mds 33 [.agg f.cs, O] H id = some (.val (.agg [rowC (firstF ord) (some ord.length), rowC (lastF f ord) (some ord.length)]) none) := fun H id => of_call f F hG hO hol hr H id
  have st : storeAt [.row f.cs 29, .row [O, S, litI .i64 m] 32, .row [.sl 0 [] (some 0), .sl 0 [] (some 0)] 76] 2 (.ptr 2 0) (.agg [rowC (firstF ord) (some ord.length), rowC (lastF f ord) (some ord.length)]) = some [.row f.cs 29, .row [O, S, litI .i64 m] 32, .row [rowC (firstF ord) (some ord.length), rowC (lastF f ord) (some ord.length)] 76] := by
    rw [storeAt_agg (r := 2) (n := 2) (cs := [.sl 0 [] (some 0), .sl 0 [] (some 0)]) (t := 76) rfl rfl rfl rfl]; rfl
  have k0' : Ai.load [.row f.cs 29, .row [O, S, litI .i64 m] 32, .row [rowC (firstF ord) (some ord.length), rowC (lastF f ord) (some ord.length)] 76, .mp []] none (.ptr 1 0) = some O := rfl
  obtain ⟨H', L⟩ := rg_loop f O S ord slots hO hS m (firstF ord) (lastF f ord) (some ord.length) (some ord.length) f.names.length hlo hsl (by rw [lastF_len, hol]) hr ord.length 0 [] (fun _ => none) (by omega) (fun k => rfl) (fun j x h => by cases h)
  rw [show ((0 : Nat) : Int) = 0 from rfl, List.drop_zero, show rgH f O S m (firstF ord) (lastF f ord) (some ord.length) (some ord.length) [] = [.row f.cs 29, .row [O, S, litI .i64 m] 32, .row [rowC (firstF ord) (some ord.length), rowC (lastF f ord) (some ord.length)] 76, .mp []] from rfl] at L
  cases e5 : liesOk (lastF f ord) slots 0 ord (fun _ => none) with
  | true =>
    rw [if_pos e5] at L
    refine ⟨H', cw_of fn19 (c := c19) rfl rfl rfl rfl ?_⟩
    simp -implicitDefEqProofs only [c19, aW, ↓aP, makes, Nat.reduceLT, Nat.reduceEqDiff, Nat.reduceAdd, core_box, flat_f, hb, List.length_nil, List.length_cons, fadr_ptr, Nat.zero_add, l1, lenV_strs, core_mkf, lA, hgc, k0, hO.lenV, e1', k1, hS.lenV, e2', hc, hod, hof, st, core_mkm, k0', L]
    rfl
  | false =>
    rw [if_neg (by rw [e5]; simp)] at L
    refine ⟨H', cw_of fn19 (c := c19) rfl rfl rfl rfl ?_⟩
    simp -implicitDefEqProofs only [c19, aW, ↓aP, makes, Nat.reduceLT, Nat.reduceEqDiff, Nat.reduceAdd, core_box, flat_f, hb, List.length_nil, List.length_cons, fadr_ptr, Nat.zero_add, l1, lenV_strs, core_mkf, lA, hgc, k0, hO.lenV, e1', k1, hS.lenV, e2', hc, hod, hof, st, core_mkm, k0', L]
    rfl
end Go.Proofs.Ytcgbdndkfonphaa.Ai
namespace Go.Proofs.Ytcgbdndkfonphaa.Ai
open Go Go.Ai
variable {call : CallF} {mt : MtF} {md : FuncId → Md}
def needR (f : FlatV) (q : Eqn) : List Int := q.args ++ (if q.guard ≥ 0 then [q.guard] else []) ++ begF f q
end Go.Proofs.Ytcgbdndkfonphaa.Ai
namespace Go.Proofs.Ytcgbdndkfonphaa.Ai
open Go Go.Ai
variable {call : CallF} {mt : MtF} {md : FuncId → Md}
structure GraphA (A : AV) (g : List (List Int)) : Prop where
  len : Ai.lenV A = some (litI .i64 g.length)
  el : ∀ (n : Nat) (row : List Int), g[n]? = some row → ∃ B, iadr 1 A (litI .i64 n) = some (.ip [B]) ∧ RowA B row
  sl : ∃ e xs c, A = .sl e xs c
def needsP (g : List (List Int)) (i k : Int) : Bool := decide (0 ≤ i) && decide (i < g.length) && decide (0 ≤ k) && decide (k < g.length) && (g.getD i.toNat []).contains k
def NR (f : FlatV) : List (List Int) := setN (needR f) (List.replicate f.names.length []) f.eqs
theorem NR_len (f : FlatV) : (NR f).length = f.names.length := by unfold NR; rw [setN_len]; simp
end Go.Proofs.Ytcgbdndkfonphaa.Ai
namespace Go.Proofs.Ytcgbdndkfonphaa.Ai
open Go Go.Ai
variable {call : CallF} {mt : MtF} {md : FuncId → Md}
def endB : List Bool → List Int → List Bool
  | bs_, [] => bs_
  | bs_, x :: r => endB (if 0 ≤ x then bs_.set x.toNat true else bs_) r
def endF (f : FlatV) : List Bool := endB (List.replicate f.names.length false) (endL f)
end Go.Proofs.Ytcgbdndkfonphaa.Ai
namespace Go.Proofs.Ytcgbdndkfonphaa.Ai
open Go Go.Ai
variable {call : CallF} {mt : MtF} {md : FuncId → Md}
def maxR (g : List (List Int)) (v : Int) : Nat → List Int → Int → Int
  | _, [], acc => acc
  | i, o :: r, acc => maxR g v (i + 1) r (if needsP g o v = true then max acc i else acc)
def lastR (f : FlatV) (ord : List Int) (v : Nat) : Int := if (endF f).getD v false = true then ord.length else maxR (NR f) v 0 ord (placeI ord v)
def lastsR (f : FlatV) (ord : List Int) : List Int := (List.range f.names.length).map (lastR f ord)
end Go.Proofs.Ytcgbdndkfonphaa.Ai
namespace Go.Proofs.Ytcgbdndkfonphaa.Ai
open Go Go.Ai
variable {call : CallF} {mt : MtF} {md : FuncId → Md}
theorem placeF_spec (v : Int) : ∀ (r : List Int) (n : Nat), (placeF v n r = -1 ∧ ¬ v ∈ r) ∨ ∃ j : Nat, placeF v n r = ((n + j : Nat) : Int) ∧ r[j]? = some v ∧ ¬ v ∈ r.take j
  | [], n => .inl ⟨rfl, by simp⟩
  | x :: r, n => by
    rw [placeF]
    by_cases h : x = v
    · right; rw [if_pos h]; exact ⟨0, rfl, by simp [h], by simp⟩
    · rw [if_neg h]
      rcases placeF_spec v r (n + 1) with ⟨h1, h2⟩ | ⟨j, h1, h2, h3⟩
      · left; exact ⟨h1, by simp [Ne.symm h, h2]⟩
      · right; refine ⟨j + 1, by rw [h1]; congr 1; omega, by simpa using h2, ?_⟩
        rw [List.take_succ_cons, List.mem_cons]
        rintro (h4 | h4)
        · exact h h4.symm
        · exact h3 h4
end Go.Proofs.Ytcgbdndkfonphaa.Ai
namespace Go.Proofs.Ytcgbdndkfonphaa.Ai
open Go Go.Ai
set_option maxRecDepth 1000000 in
theorem awake18_says : saysTrue (callB (lookF tb) ovs (lookM mtl) mds 30 18 [] []) = true := by kernel_rfl
theorem awake18_tells : ∃ H', cw 18 [] [] = some (.ret (litB true), H') := by
  obtain ⟨H', h⟩ := saysTrue_some awake18_says
  exact ⟨H', callW_some.2 ⟨30, callB_le 30 _ _ _ _ h⟩⟩
theorem awake18_call (H : List AO) (id : Nat) : callV cw mds 18 [] H id = some (.val (litB true) none) := by
  obtain ⟨H', h⟩ := awake18_tells
  exact callV_pure rfl rfl h rfl
end Go.Proofs.Ytcgbdndkfonphaa.Ai
namespace Go.Proofs.Ytcgbdndkfonphaa.Ai
open Go Go.Ai
theorem setN_other (g : Eqn → List Int) (v : Nat) : ∀ (l : List Eqn) (rows : List (List Int)), (∀ q ∈ l, q.var.toNat ≠ v) → (setN g rows l).getD v [] = rows.getD v []
  | [], _, _ => rfl
  | q :: l, rows, h => by
    rw [setN, setN_other g v l _ fun q' hq => h q' (List.mem_cons_of_mem _ hq)]
    rw [List.getD_eq_getElem?_getD, List.getElem?_set_ne (h q (List.mem_cons_self ..)), ← List.getD_eq_getElem?_getD]
theorem setN_get (g : Eqn → List Int) : ∀ (l : List Eqn) (rows : List (List Int)), (∀ q ∈ l, 0 ≤ q.var ∧ q.var < (rows.length : Int)) → (l.map (·.var)).Nodup → ∀ q ∈ l, (setN g rows l).getD q.var.toNat [] = g q
  | [], _, _, _ => by simp
  | q :: l, rows, h, hn => by
    rw [List.map_cons, List.nodup_cons] at hn
    have hq := h q (List.mem_cons_self ..)
    intro q' hq'
    rw [setN]
    rcases List.mem_cons.1 hq' with rfl | hq'
    · rw [setN_other g _ l _ fun x hx e => hn.1 (List.mem_map.2 ⟨x, hx, by have := h x (List.mem_cons_of_mem _ hx); omega⟩)]
      rw [List.getD_eq_getElem?_getD, List.getElem?_set_self (by omega)]; rfl
    · exact setN_get g l _ (fun x hx => by rw [List.length_set]; exact h x (List.mem_cons_of_mem _ hx)) hn.2 q' hq'
theorem NC_get (f : FlatV) (G : GoodF f) (q : Eqn) (hq : q ∈ f.eqs) : (NC f).getD q.var.toNat [] = needC f q := setN_get (needC f) f.eqs _ (fun q hq => by rw [List.length_replicate]; exact G.var q hq) G.nodup q hq
theorem NR_get (f : FlatV) (G : GoodF f) (q : Eqn) (hq : q ∈ f.eqs) : (NR f).getD q.var.toNat [] = needR f q := setN_get (needR f) f.eqs _ (fun q hq => by rw [List.length_replicate]; exact G.var q hq) G.nodup q hq
theorem mem_needC (f : FlatV) (q : Eqn) (x : Int) : x ∈ needC f q ↔ 0 ≤ x ∧ x ∈ needR f q := by
  unfold needC needR
  rw [List.mem_filter, Ord.mem_compI, Ord.mem_sortI]
  simp only [Bool.not_eq_true', decide_eq_false_iff_not, List.mem_append, List.mem_cons, List.not_mem_nil, or_false]
  constructor
  · rintro ⟨(h | h) | h, h0⟩
    · exact ⟨by omega, .inl (.inl h)⟩
    · exact ⟨by omega, .inr h⟩
    · refine ⟨by omega, .inl (.inr ?_)⟩
      rw [if_pos (by omega)]; simp [h]
  · rintro ⟨h0, (h | h) | h⟩
    · exact ⟨.inl (.inl h), by omega⟩
    · split at h
      · simp only [List.mem_cons, List.not_mem_nil, or_false] at h; exact ⟨.inr h, by omega⟩
      · cases h
    · exact ⟨.inl (.inr h), by omega⟩
theorem needsP_NC (f : FlatV) (F : FitsS f) (G : GoodF f) (i k : Nat) (hi : i < f.names.length) (hk : k < f.names.length) : needsP (NR f) i k = true ↔ (k : Int) ∈ (NC f).getD i [] := by
  obtain ⟨q, hq, e⟩ := G.all i hi
  have h1 := NC_get f G q hq
  have h2 := NR_get f G q hq
  rw [e] at h1 h2
  rw [h1, mem_needC]
  unfold needsP
  rw [Int.toNat_natCast, h2, NR_len, decide_eq_true (show (0 : Int) ≤ i by omega), decide_eq_true (show (i : Int) < f.names.length by omega), decide_eq_true (show (0 : Int) ≤ k by omega), decide_eq_true (show (k : Int) < f.names.length by omega)]
  simp only [Bool.true_and, List.contains_iff_mem]
  exact ⟨fun h => ⟨by omega, h⟩, fun h => h.2⟩
theorem need_NC (f : FlatV) (F : FitsS f) (G : GoodF f) (i : Nat) (x : Int) : x ∈ Ord.need (NC f) i ↔ x ∈ (NC f).getD i [] := by
  cases hg : (NC f)[i]? with
  | none =>
    unfold Ord.need
    rw [hg, List.getD_eq_getElem?_getD, hg]; rfl
  | some row =>
    rw [Ord.mem_need hg, List.getD_eq_getElem?_getD, hg]
    simp only [Option.getD_some]
    constructor
    · exact fun h => h.1
    · intro h
      have := NC_rng f F G row (List.mem_of_getElem? hg) x h
      rw [NC_len]; exact ⟨h, this⟩
theorem nodup_inj {l : List Int} (h : l.Nodup) {i j : Nat} {x : Int} (hi : l[i]? = some x) (hj : l[j]? = some x) : i = j := by
  obtain ⟨h1, e1⟩ := List.getElem?_eq_some_iff.1 hi
  obtain ⟨h2, e2⟩ := List.getElem?_eq_some_iff.1 hj
  rw [List.Nodup, List.pairwise_iff_getElem] at h
  rcases Nat.lt_trichotomy i j with hlt | heq | hgt
  · exact absurd (e1.trans e2.symm) (h i j h1 h2 hlt)
  · exact heq
  · exact absurd (e2.trans e1.symm) (h j i h2 h1 hgt)
structure PermO (n : Nat) (ord : List Int) : Prop where
  len : ord.length = n
  rng : ∀ x ∈ ord, 0 ≤ x ∧ x < (n : Int)
  nd : ord.Nodup
def posO (ord : List Int) (v : Nat) : Nat := (placeI ord v).toNat
theorem PermO.all {n : Nat} {ord : List Int} (P : PermO n ord) (v : Nat) (hv : v < n) : (v : Int) ∈ ord := by
  have hm : (ord.map Int.toNat).Nodup := by
    have hr := P.rng
    have hn := P.nd
    clear P
    induction ord with
    | nil => simp
    | cons x l ih =>
      rw [List.nodup_cons] at hn
      rw [List.map_cons, List.nodup_cons]
      refine ⟨fun hm => hn.1 ?_, ih (fun y hy => hr y (List.mem_cons_of_mem _ hy)) hn.2⟩
      obtain ⟨y, hy, e⟩ := List.mem_map.1 hm
      have h1 := hr x (List.mem_cons_self ..)
      have h2 := hr y (List.mem_cons_of_mem _ hy)
      rw [show x = y by omega]; exact hy
  have := nodup_all hm (by rw [List.length_map, P.len]) (fun x hx => by
    obtain ⟨y, hy, rfl⟩ := List.mem_map.1 hx
    have := P.rng y hy; omega) v hv
  obtain ⟨y, hy, e⟩ := List.mem_map.1 this
  have := P.rng y hy
  rw [show (v : Int) = y by omega]; exact hy
theorem PermO.pos {n : Nat} {ord : List Int} (P : PermO n ord) (v : Nat) (hv : v < n) : placeI ord v = (posO ord v : Int) ∧ ord[posO ord v]? = some (v : Int) := by
  rcases placeF_spec v ord 0 with ⟨_, h2⟩ | ⟨j, h1, h2, _⟩
  · exact absurd (P.all v hv) h2
  · have e : placeI ord v = (j : Int) := by unfold placeI; rw [h1]; congr 1; omega
    unfold posO
    rw [e]
    exact ⟨rfl, h2⟩
theorem PermO.at_ {n : Nat} {ord : List Int} (P : PermO n ord) {i : Nat} {v : Nat} (h : ord[i]? = some (v : Int)) : posO ord v = i := by
  have hv : v < n := by have := P.rng _ (List.mem_of_getElem? h); omega
  have h2 := (P.pos v hv).2
  exact nodup_inj P.nd h2 h
theorem PermO.lt {n : Nat} {ord : List Int} (P : PermO n ord) {v : Nat} (hv : v < n) : posO ord v < n := by
  have := (List.getElem?_eq_some_iff.1 (P.pos v hv).2).1
  rw [P.len] at this; exact this
theorem PermO.inj {n : Nat} {ord : List Int} (P : PermO n ord) {u v : Nat} (hu : u < n) (hv : v < n) (h : posO ord u = posO ord v) : u = v := by
  have h1 := (P.pos u hu).2
  have h2 := (P.pos v hv).2
  rw [h, h2] at h1
  simp only [Option.some.injEq] at h1
  omega
theorem setAll_get : ∀ (l r : List Int) (i : Nat) (v : Nat), l.Nodup → (∀ x ∈ l, 0 ≤ x ∧ x < (r.length : Int)) → (∀ j, l[j]? = some (v : Int) → (setAll r i l).getD v 0 = (i + j : Nat)) ∧ (¬ (v : Int) ∈ l → (setAll r i l).getD v 0 = r.getD v 0)
  | [], r, i, v, _, _ => ⟨fun j h => (by cases h), fun _ => rfl⟩
  | x :: l, r, i, v, hn, hr => by
    rw [List.nodup_cons] at hn
    have hx := hr x (List.mem_cons_self ..)
    obtain ⟨h1, h2⟩ := setAll_get l (r.set x.toNat i) (i + 1) v hn.2 (fun y hy => by rw [List.length_set]; exact hr y (List.mem_cons_of_mem _ hy))
    rw [setAll]
    refine ⟨fun j hj => ?_, fun hm => ?_⟩
    · cases j with
      | zero =>
        simp only [List.getElem?_cons_zero, Option.some.injEq] at hj
        rw [h2 (by rw [← hj]; exact hn.1), hj, Int.toNat_natCast, List.getD_eq_getElem?_getD, List.getElem?_set_self (by omega)]; rfl
      | succ j =>
        simp only [List.getElem?_cons_succ] at hj
        rw [h1 j hj]; congr 1; omega
    · rw [List.mem_cons] at hm
      rw [h2 fun h => hm (.inr h), List.getD_eq_getElem?_getD, List.getElem?_set_ne (by omega), ← List.getD_eq_getElem?_getD]
theorem firstF_get {n : Nat} {ord : List Int} (P : PermO n ord) (v : Nat) (hv : v < n) : (firstF ord).getD v 0 = (posO ord v : Int) := by
  unfold firstF
  have := (setAll_get ord (List.replicate ord.length 0) 0 v P.nd (fun x hx => by rw [List.length_replicate, P.len]; exact P.rng x hx)).1 _ (P.pos v hv).2
  rw [this]; congr 1; omega
end Go.Proofs.Ytcgbdndkfonphaa.Ai
namespace Go.Proofs.Ytcgbdndkfonphaa.Ai
open Go Go.Ai
theorem getD_set' (l : List Int) (i a : Nat) (x : Int) (hi : i < l.length) : (l.set i x).getD a 0 = if i = a then x else l.getD a 0 := by
  rw [Ord.getD_set]
  by_cases h : i = a
  · rw [if_pos ⟨h, hi⟩, if_pos h]
  · rw [if_neg (fun h2 => h h2.1), if_neg h]
theorem maxK_le (fv : Int) (k : Nat) (z : Int) : ∀ (row last : List Int), (∀ x ∈ row, 0 ≤ x ∧ x < (last.length : Int)) → ((maxK fv last row).getD k 0 ≤ z ↔ last.getD k 0 ≤ z ∧ ((k : Int) ∈ row → fv ≤ z))
  | [], last, _ => by simp [maxK]
  | x :: row, last, h => by
    have hx := h x (List.mem_cons_self ..)
    rw [maxK, maxK_le fv k z row _ (fun y hy => by rw [List.length_set]; exact h y (List.mem_cons_of_mem _ hy)), getD_set' _ _ _ _ (by omega), List.mem_cons]
    by_cases e : x.toNat = k
    · have e' : (k : Int) = x := by omega
      rw [if_pos e, e]
      constructor
      · rintro ⟨h1, h2⟩; exact ⟨by omega, fun _ => by omega⟩
      · rintro ⟨h1, h2⟩; exact ⟨by have := h2 (.inl e'); omega, fun _ => h2 (.inl e')⟩
    · have e' : ¬ (k : Int) = x := by omega
      rw [if_neg e]
      constructor
      · rintro ⟨h1, h2⟩; exact ⟨h1, fun h => h2 (h.resolve_left e')⟩
      · rintro ⟨h1, h2⟩; exact ⟨h1, fun h => h2 (.inr h)⟩
theorem maxV_le (first : List Int) (k : Nat) (z : Int) : ∀ (g : List (List Int)) (v : Nat) (last : List Int), (∀ r ∈ g, ∀ x ∈ r, 0 ≤ x ∧ x < (last.length : Int)) →
    ((maxV first v last g).getD k 0 ≤ z ↔ last.getD k 0 ≤ z ∧ ∀ j, (k : Int) ∈ g.getD j [] → first.getD (v + j) 0 ≤ z)
  | [], v, last, _ => by simp [maxV]
  | row :: g, v, last, h => by
    rw [maxV, maxV_le first k z g (v + 1) _ (fun r hr x hx => by rw [maxK_len]; exact h r (List.mem_cons_of_mem _ hr) x hx), maxK_le _ _ _ _ _ (h row (List.mem_cons_self ..))]
    constructor
    · rintro ⟨⟨h1, h2⟩, h3⟩
      refine ⟨h1, fun j hj => ?_⟩
      cases j with
      | zero => exact h2 hj
      | succ j =>
        have := h3 j hj
        rw [show v + (j + 1) = v + 1 + j by omega]; exact this
    · rintro ⟨h1, h2⟩
      refine ⟨⟨h1, fun hm => h2 0 hm⟩, fun j hj => ?_⟩
      have := h2 (j + 1) hj
      rw [show v + 1 + j = v + (j + 1) by omega]; exact this
theorem endK_get (n : Int) (k : Nat) : ∀ (l last : List Int), (∀ x ∈ l, 0 ≤ x ∧ x < (last.length : Int)) → (endK n last l).getD k 0 = if (k : Int) ∈ l then n else last.getD k 0
  | [], last, _ => by simp [endK]
  | x :: l, last, h => by
    have hx := h x (List.mem_cons_self ..)
    rw [endK, endK_get n k l _ (fun y hy => by rw [List.length_set]; exact h y (List.mem_cons_of_mem _ hy)), getD_set' _ _ _ _ (by omega)]
    by_cases e : x.toNat = k
    · have e' : (k : Int) = x := by omega
      rw [if_pos e, if_pos (show (k : Int) ∈ x :: l from List.mem_cons.2 (.inl e'))]
      split <;> rfl
    · have e' : ¬ (k : Int) = x := by omega
      rw [if_neg e]
      simp only [List.mem_cons, e', false_or]
theorem maxR_le (g : List (List Int)) (v z : Int) : ∀ (l : List Int) (i : Nat) (acc : Int), (maxR g v i l acc ≤ z ↔ acc ≤ z ∧ ∀ (j : Nat) (o : Int), l[j]? = some o → needsP g o v = true → ((i + j : Nat) : Int) ≤ z)
  | [], i, acc => by simp [maxR]
  | x :: l, i, acc => by
    rw [maxR, maxR_le g v z l (i + 1)]
    by_cases hp : needsP g x v = true
    · rw [if_pos hp]
      constructor
      · rintro ⟨h1, h2⟩
        refine ⟨by omega, fun j o hj hn => ?_⟩
        cases j with
        | zero => omega
        | succ j =>
          simp only [List.getElem?_cons_succ] at hj
          have := h2 j o hj hn
          rw [show i + (j + 1) = i + 1 + j by omega]; exact this
      · rintro ⟨h1, h2⟩
        have h0 := h2 0 x rfl hp
        refine ⟨by simp at h0; omega, fun j o hj hn => ?_⟩
        have := h2 (j + 1) o (by simpa using hj) hn
        rw [show i + 1 + j = i + (j + 1) by omega]; exact this
    · rw [if_neg hp]
      constructor
      · rintro ⟨h1, h2⟩
        refine ⟨h1, fun j o hj hn => ?_⟩
        cases j with
        | zero => simp only [List.getElem?_cons_zero, Option.some.injEq] at hj; subst hj; exact absurd hn hp
        | succ j =>
          simp only [List.getElem?_cons_succ] at hj
          have := h2 j o hj hn
          rw [show i + (j + 1) = i + 1 + j by omega]; exact this
      · rintro ⟨h1, h2⟩
        refine ⟨h1, fun j o hj hn => ?_⟩
        have := h2 (j + 1) o (by simpa using hj) hn
        rw [show i + 1 + j = i + (j + 1) by omega]; exact this
theorem endB_get (k : Nat) : ∀ (l : List Int) (bs_ : List Bool), k < bs_.length → (∀ x ∈ l, x < (bs_.length : Int)) → ((endB bs_ l).getD k false = true ↔ bs_.getD k false = true ∨ (k : Int) ∈ l)
  | [], bs_, _, _ => by simp [endB]
  | x :: l, bs_, hk, h => by
    have hx := h x (List.mem_cons_self ..)
    rw [endB]
    by_cases h0 : 0 ≤ x
    · rw [if_pos h0, endB_get k l _ (by simpa using hk) (fun y hy => by rw [List.length_set]; exact h y (List.mem_cons_of_mem _ hy)), List.mem_cons]
      by_cases e : x.toNat = k
      · have e' : (k : Int) = x := by omega
        have : (bs_.set x.toNat true).getD k false = true := by
          rw [e, List.getD_eq_getElem?_getD, List.getElem?_set_self hk]; rfl
        rw [this]; exact ⟨fun _ => .inr (.inl e'), fun _ => .inl rfl⟩
      · have e' : ¬ (k : Int) = x := by omega
        have : (bs_.set x.toNat true).getD k false = bs_.getD k false := by
          rw [List.getD_eq_getElem?_getD, List.getElem?_set_ne e, ← List.getD_eq_getElem?_getD]
        rw [this]; simp [e']
    · rw [if_neg h0, endB_get k l _ hk (fun y hy => h y (List.mem_cons_of_mem _ hy)), List.mem_cons]
      have e' : ¬ (k : Int) = x := by omega
      simp [e']
theorem le_all {a b : Int} (h : ∀ z, a ≤ z ↔ b ≤ z) : a = b := by
  have h1 := (h b).2 (Int.le_refl _)
  have h2 := (h a).1 (Int.le_refl _)
  omega
section
variable (f : FlatV) (F : FitsS f) (G : GoodF f) {ord : List Int} (P : PermO f.names.length ord)
include F G P
theorem endF_iff (k : Nat) (hk : k < f.names.length) : (endF f).getD k false = true ↔ (k : Int) ∈ behF f := by
  unfold endF behF
  rw [endB_get k _ _ (by simpa using hk) (fun x hx => by rw [List.length_replicate]; exact endL_rng f G x hx), List.mem_filter]
  have : (List.replicate f.names.length false).getD k false = false := by
    rw [List.getD_eq_getElem?_getD, List.getElem?_replicate]; split <;> rfl
  rw [this]
  have hneg : ¬ ((k : Int) < 0) := by omega
  simp [hneg]
theorem lastF_get (k : Nat) (hk : k < f.names.length) : (lastF f ord).getD k 0 = lastR f ord k := by
  unfold lastF
  have hfl : (firstF ord).length = f.names.length := by rw [firstF_len, P.len]
  rw [endK_get _ k _ _ (fun x hx => by rw [maxV_len, hfl]; exact behF_rng f G x hx)]
  unfold lastR
  by_cases he : (k : Int) ∈ behF f
  · rw [if_pos he, if_pos ((endF_iff f F G P k hk).2 he)]
  · rw [if_neg he, if_neg (fun h => he ((endF_iff f F G P k hk).1 h))]
    refine le_all fun z => ?_
    rw [maxV_le _ k z _ _ _ (fun r hr x hx => by rw [hfl]; exact NC_rng f F G r hr x hx), maxR_le, firstF_get P k hk, (P.pos k hk).1]
    refine and_congr Iff.rfl ?_
    constructor
    · intro h j o hj hn
      have hoR := P.rng o (List.mem_of_getElem? hj)
      have hoe : ((o.toNat : Nat) : Int) = o := by omega
      rw [← hoe] at hn hj
      have hm := (needsP_NC f F G o.toNat k (by omega) hk).1 hn
      have := h o.toNat hm
      rw [Nat.zero_add, firstF_get P _ (by omega), P.at_ hj] at this
      rw [Nat.zero_add]; exact this
    · intro h v hv
      have hvl : v < f.names.length := by
        apply Classical.byContradiction
        intro hc
        rw [List.getD_eq_getElem?_getD, List.getElem?_eq_none (by rw [NC_len]; omega)] at hv
        cases hv
      have hn := (needsP_NC f F G v k hvl hk).2 hv
      have := h (posO ord v) v (P.pos v hvl).2 hn
      rw [Nat.zero_add] at this
      rw [Nat.zero_add, firstF_get P _ hvl]; exact this
theorem lastF_eq : lastF f ord = lastsR f ord := by
  apply List.ext_getElem
  · rw [lastF_len, P.len]; simp [lastsR]
  · intro k h1 h2
    have hk : k < f.names.length := by simpa [lastsR] using h2
    have := lastF_get f F G P k hk
    rw [List.getD_eq_getElem?_getD, List.getElem?_eq_getElem h1] at this
    simp only [Option.getD_some] at this
    rw [this]
    simp [lastsR]
theorem lastR_ge (k : Nat) (hk : k < f.names.length) : (posO ord k : Int) ≤ lastR f ord k := by
  unfold lastR
  have hp := P.lt hk
  split
  · rw [P.len]; omega
  · have := (maxR_le (NR f) k _ ord 0 (placeI ord k)).1 (Int.le_refl _)
    rw [(P.pos k hk).1] at this ⊢
    exact this.1
end
end Go.Proofs.Ytcgbdndkfonphaa.Ai
namespace Go.Proofs.Ytcgbdndkfonphaa.Ai
open Go Go.Ai
theorem atF_eq (n : Nat) : ∀ (l at_ : List Int) (i : Nat), at_.length = n → (atF n at_ i l = some (setAll at_ i l) ∧ l.Nodup ∧ ∀ x ∈ l, (0 ≤ x ∧ x < (n : Int)) ∧ at_.getD x.toNat 0 < 0) ∨ (atF n at_ i l = none ∧ ¬ (l.Nodup ∧ ∀ x ∈ l, (0 ≤ x ∧ x < (n : Int)) ∧ at_.getD x.toNat 0 < 0))
  | [], at_, i, _ => .inl ⟨rfl, List.nodup_nil, by simp⟩
  | v :: l, at_, i, ha => by
    rw [atF, setAll]
    by_cases hc : v < 0 ∨ (n : Int) ≤ v ∨ 0 ≤ at_.getD v.toNat 0
    · right
      rw [if_pos hc]
      refine ⟨rfl, fun h => ?_⟩
      have := h.2 v (List.mem_cons_self ..)
      omega
    · rw [if_neg hc]
      have gs : ∀ x : Int, 0 ≤ x → x < (n : Int) → ((at_.set v.toNat i).getD x.toNat 0 < 0 ↔ x ≠ v ∧ at_.getD x.toNat 0 < 0) := by
        intro x h0 h1
        rw [getD_set' _ _ _ _ (by omega)]
        by_cases e : v.toNat = x.toNat
        · rw [if_pos e]
          have : x = v := by omega
          simp [this]
        · rw [if_neg e]
          have : x ≠ v := by omega
          simp [this]
      rcases atF_eq n l (at_.set v.toNat i) (i + 1) (by simpa using ha) with ⟨h1, h2, h3⟩ | ⟨h1, h2⟩
      · left
        refine ⟨h1, ?_, fun x hx => ?_⟩
        · rw [List.nodup_cons]
          refine ⟨fun hm => ?_, h2⟩
          have := h3 v hm
          exact ((gs v this.1.1 this.1.2).1 this.2).1 rfl
        · rcases List.mem_cons.1 hx with rfl | hx
          · exact ⟨⟨by omega, by omega⟩, by omega⟩
          · have := h3 x hx
            exact ⟨this.1, ((gs x this.1.1 this.1.2).1 this.2).2⟩
      · right
        refine ⟨h1, fun h => h2 ?_⟩
        obtain ⟨hn, hr⟩ := h
        rw [List.nodup_cons] at hn
        refine ⟨hn.2, fun x hx => ?_⟩
        have := hr x (List.mem_cons_of_mem _ hx)
        exact ⟨this.1, (gs x this.1.1 this.1.2).2 ⟨fun e => hn.1 (e ▸ hx), this.2⟩⟩
theorem needsAt_iff (at_ : List Int) : ∀ (g : List (List Int)) (v : Nat), needsAt at_ v g = true ↔ ∀ j, j < g.length → behindA at_ (v + j) (g.getD j []) = true
  | [], v => by simp [needsAt]
  | row :: g, v => by
    rw [needsAt, Bool.and_eq_true, needsAt_iff at_ g (v + 1)]
    constructor
    · rintro ⟨h1, h2⟩ j hj
      cases j with
      | zero => exact h1
      | succ j =>
        have := h2 j (by simpa using hj)
        rw [show v + (j + 1) = v + 1 + j by omega]; exact this
    · intro h
      refine ⟨h 0 (by simp), fun j hj => ?_⟩
      have := h (j + 1) (by simpa using hj)
      rw [show v + 1 + j = v + (j + 1) by omega]; exact this
structure OrdOk (f : FlatV) (ord : List Int) : Prop where
  p : PermO f.names.length ord
  b : ∀ v k : Nat, v < f.names.length → k < f.names.length → (k : Int) ∈ (NC f).getD v [] → posO ord k < posO ord v
section
variable (f : FlatV) (F : FitsS f) (G : GoodF f)
include F G
theorem ordered_iff {ord : List Int} (hl : ord.length = f.names.length) : orderedF f ord = true ↔ OrdOk f ord := by
  unfold orderedF
  have hm1 : ∀ x : Nat, x < f.names.length → (List.replicate f.names.length (-1 : Int)).getD x 0 = -1 := fun x hx => by
    rw [List.getD_eq_getElem?_getD, List.getElem?_replicate, if_pos hx]; rfl
  rcases atF_eq f.names.length ord (List.replicate f.names.length (-1)) 0 (by simp) with ⟨h1, h2, h3⟩ | ⟨h1, h2⟩
  · rw [h1]
    simp only
    have P : PermO f.names.length ord := ⟨hl, fun x hx => (h3 x hx).1, h2⟩
    have ga : ∀ v : Nat, v < f.names.length → (setAll (List.replicate f.names.length (-1)) 0 ord).getD v 0 = (posO ord v : Int) := by
      intro v hv
      have := (setAll_get ord (List.replicate f.names.length (-1)) 0 v P.nd (fun x hx => by rw [List.length_replicate]; exact P.rng x hx)).1 _ (P.pos v hv).2
      rw [this]; congr 1; omega
    rw [needsAt_iff]
    constructor
    · intro h
      refine ⟨P, fun v k hv hk hn => ?_⟩
      have := h v (by rw [NC_len]; exact hv)
      rw [Nat.zero_add] at this
      unfold behindA at this
      rw [Bool.and_eq_true, Bool.not_eq_true', Bool.not_eq_true', List.any_eq_false] at this
      have := this.2 _ hn
      rw [Int.toNat_natCast, ga v hv, ga k hk] at this
      simp only [ge_iff_le, decide_eq_true_eq] at this
      omega
    · intro h v hv
      rw [NC_len] at hv
      rw [Nat.zero_add]
      unfold behindA
      rw [Bool.and_eq_true, Bool.not_eq_true', Bool.not_eq_true', List.any_eq_false, ga v hv]
      refine ⟨by simp, fun x hx => ?_⟩
      have hrow : (NC f).getD v [] ∈ NC f := by
        rw [List.getD_eq_getElem?_getD, List.getElem?_eq_getElem (by rw [NC_len]; exact hv)]; exact List.getElem_mem _
      have hxr := NC_rng f F G _ hrow x hx
      have := h.b v x.toNat hv (by omega) (by rw [show ((x.toNat : Nat) : Int) = x by omega]; exact hx)
      rw [ga x.toNat (by omega)]
      simp; omega
  · rw [h1]
    constructor
    · intro h; cases h
    · intro h
      exfalso
      refine h2 ⟨h.p.nd, fun x hx => ⟨h.p.rng x hx, ?_⟩⟩
      rw [hm1 _ (by have := h.p.rng x hx; omega)]; omega
def sAt (ord slots : List Int) (k : Nat) : Int := slots.getD (ord.getD k 0).toNat 0
def lAt (ord last : List Int) (k : Nat) : Int := last.getD (ord.getD k 0).toNat 0
def Apart (ord slots last : List Int) (n : Nat) : Prop := ∀ i, i < n → ∀ k, k < i → sAt ord slots k = sAt ord slots i → lAt ord last k < (i : Int)
def MapAt (ord slots : List Int) (i : Nat) (m : Int → Option Int) : Prop := ∀ s, (m s = none ∧ ∀ k, k < i → sAt ord slots k ≠ s) ∨ ∃ k, k < i ∧ m s = some (ord.getD k 0) ∧ sAt ord slots k = s ∧ ∀ k', k < k' → k' < i → sAt ord slots k' ≠ s
omit F G in
theorem liesOk_iff (ord slots last : List Int) : ∀ (j i : Nat) (m : Int → Option Int), j + i = ord.length → MapAt ord slots i m → Apart ord slots last i → (liesOk last slots i (ord.drop i) m = true ↔ Apart ord slots last ord.length)
  | 0, i, m, h, M, A => by
    have hi : i = ord.length := by omega
    subst hi
    rw [List.drop_length, liesOk]
    exact ⟨fun _ => A, fun _ => rfl⟩
  | j + 1, i, m, h, M, A => by
    have hi : i < ord.length := by omega
    have hg : ord.getD i 0 = ord[i] := by rw [List.getD_eq_getElem?_getD, List.getElem?_eq_getElem hi]; rfl
    rw [List.drop_eq_getElem_cons hi, liesOk, ← hg]
    have hs : slots.getD (ord.getD i 0).toNat 0 = sAt ord slots i := rfl
    rw [hs]
    have key : (match m (sAt ord slots i) with | some old => decide (last.getD old.toNat 0 < (i : Int)) | none => true) = true ↔ ∀ k, k < i → sAt ord slots k = sAt ord slots i → lAt ord last k < (i : Int) := by
      rcases M (sAt ord slots i) with ⟨h1, h2⟩ | ⟨k, h1, h2, h3, h4⟩
      · rw [h1]
        exact ⟨fun _ k hk e => absurd e (h2 k hk), fun _ => rfl⟩
      · rw [h2]
        simp only [decide_eq_true_eq]
        constructor
        · intro hl k' hk' e
          by_cases e1 : k' = k
          · subst e1; exact hl
          · by_cases hlt : k < k'
            · exact absurd e (h4 k' hlt hk')
            · have := A k h1 k' (by omega) (e.trans h3.symm)
              unfold lAt at this ⊢
              omega
        · intro h
          exact h k h1 h3
    have M' : MapAt ord slots (i + 1) fun s => if s = sAt ord slots i then some (ord.getD i 0) else m s := by
      intro s
      by_cases e : s = sAt ord slots i
      · right
        refine ⟨i, by omega, if_pos e, e.symm, fun k' h1 h2 => by omega⟩
      · rcases M s with ⟨h1, h2⟩ | ⟨k, h1, h2, h3, h4⟩
        · left
          refine ⟨by simp only [if_neg e]; exact h1, fun k hk => ?_⟩
          by_cases e2 : k = i
          · subst e2; exact fun h => e h.symm
          · exact h2 k (by omega)
        · right
          refine ⟨k, by omega, by simp only [if_neg e]; exact h2, h3, fun k' h5 h6 => ?_⟩
          by_cases e2 : k' = i
          · subst e2; exact fun h => e h.symm
          · exact h4 k' h5 (by omega)
    rw [Bool.and_eq_true]
    refine (and_congr key Iff.rfl).trans ?_
    constructor
    · rintro ⟨h1, h2⟩
      refine (liesOk_iff ord slots last j (i + 1) _ (by omega) M' (fun i' hi' k hk e => ?_)).1 h2
      by_cases e2 : i' = i
      · subst e2; exact h1 k hk e
      · exact A i' (by omega) k hk e
    · intro h
      refine ⟨h i hi, (liesOk_iff ord slots last j (i + 1) _ (by omega) M' (fun i' hi' k hk e => ?_)).2 h⟩
      exact h i' (by omega) k hk e
end
end Go.Proofs.Ytcgbdndkfonphaa.Ai
namespace Go.Proofs.Ytcgbdndkfonphaa.Ai
open Go Go.Ai
def Greedy (ord slots last : List Int) (i : Nat) : Prop := ∀ j, j < i → (∀ k, k < j → sAt ord slots k = sAt ord slots j → lAt ord last k < (j : Int)) ∧ 0 ≤ sAt ord slots j ∧ ∀ s : Nat, (s : Int) < sAt ord slots j → ∃ k, k < j ∧ sAt ord slots k = s ∧ (j : Int) ≤ lAt ord last k
section
variable {n : Nat} {ord last : List Int} (P : PermO n ord) (hll : last.length = n)
include P hll
theorem sAt_set {slots : List Int} (hs : slots.length = n) {i : Nat} (hi : i < n) (x : Int) {k : Nat} (hk : k < n) : sAt ord (slots.set (ord.getD i 0).toNat x) k = if k = i then x else sAt ord slots k := by
  unfold sAt
  have gi : ord[i]? = some (ord.getD i 0) := Ord.getI (by rw [P.len]; exact hi)
  have gk : ord[k]? = some (ord.getD k 0) := Ord.getI (by rw [P.len]; exact hk)
  have ri := P.rng _ (List.mem_of_getElem? gi)
  have rk := P.rng _ (List.mem_of_getElem? gk)
  rw [getD_set' _ _ _ _ (by omega)]
  by_cases e : k = i
  · subst e; simp
  · rw [if_neg e, if_neg]
    intro h
    have : ord.getD i 0 = ord.getD k 0 := by omega
    rw [← this] at gk
    exact e (nodup_inj P.nd gk gi)
theorem greedy_step {slots : List Int} (hs : slots.length = n) {i : Nat} (hi : i < n) (A : Greedy ord slots last i) {s : Nat} (h1 : ∀ k, k < i → sAt ord slots k = s → lAt ord last k < (i : Int)) (h2 : ∀ t : Nat, t < s → ∃ k, k < i ∧ sAt ord slots k = t ∧ (i : Int) ≤ lAt ord last k) :
    Greedy ord (slots.set (ord.getD i 0).toNat s) last (i + 1) := by
  have e : ∀ k, k < n → sAt ord (slots.set (ord.getD i 0).toNat s) k = if k = i then (s : Int) else sAt ord slots k := fun k hk => sAt_set P hll hs hi s hk
  intro j hj
  by_cases eji : j = i
  · subst eji
    rw [e j hi, if_pos rfl]
    refine ⟨fun k hk hse => ?_, by omega, fun t ht => ?_⟩
    · rw [e k (by omega), if_neg (by omega)] at hse
      exact h1 k hk hse
    · obtain ⟨k, hk, k1, k2⟩ := h2 t (by omega)
      exact ⟨k, hk, by rw [e k (by omega), if_neg (by omega)]; exact k1, k2⟩
  · obtain ⟨a1, a2, a3⟩ := A j (by omega)
    rw [e j (by omega), if_neg eji]
    refine ⟨fun k hk hse => ?_, a2, fun t ht => ?_⟩
    · rw [e k (by omega), if_neg (by omega)] at hse
      exact a1 k hk hse
    · obtain ⟨k, hk, k1, k2⟩ := a3 t ht
      exact ⟨k, hk, by rw [e k (by omega), if_neg (by omega)]; exact k1, k2⟩
structure UOk (slots u : List Int) (i : Nat) : Prop where
  b : ∀ k, k < i → 0 ≤ sAt ord slots k ∧ sAt ord slots k < (u.length : Int)
  u : ∀ s : Nat, s < u.length → ∃ k, k < i ∧ sAt ord slots k = s ∧ lAt ord last k = u.getD s 0 ∧ ∀ k', k < k' → k' < i → sAt ord slots k' ≠ s
theorem uok_free {slots u : List Int} {i : Nat} (hi : i ≤ n) (A : Greedy ord slots last i) (U : UOk (ord := ord) (last := last) slots u i) {s : Nat} (hs : s < u.length) : u.getD s 0 < (i : Int) ↔ ∀ k, k < i → sAt ord slots k = s → lAt ord last k < (i : Int) := by
  obtain ⟨k, hk, k1, k2, k3⟩ := U.u s hs
  rw [← k2]
  constructor
  · intro h k' hk' e
    by_cases e1 : k' = k
    · subst e1; exact h
    · by_cases hlt : k < k'
      · exact absurd e (k3 k' hlt hk')
      · have := (A k hk).1 k' (by omega) (e.trans k1.symm)
        omega
  · intro h; exact h k hk k1
theorem plF_greedy : ∀ (j i : Nat) (slots u : List Int), j + i = n → slots.length = n → Greedy ord slots last i → UOk (ord := ord) (last := last) slots u i → (∀ k, k < n → (k : Int) ≤ lAt ord last k) →
    Greedy ord (plF last i (ord.drop i) (u, slots)).2 last n ∧ UOk (ord := ord) (last := last) (plF last i (ord.drop i) (u, slots)).2 (plF last i (ord.drop i) (u, slots)).1 n
  | 0, i, slots, u, h, hs, A, U, hL => by
    have hi : i = n := by omega
    subst hi
    rw [← P.len, List.drop_length, plF, P.len]
    exact ⟨A, U⟩
  | j + 1, i, slots, u, h, hs, A, U, hL => by
    have hi : i < n := by omega
    have hio : i < ord.length := by rw [P.len]; exact hi
    have hg : ord[i] = ord.getD i 0 := by rw [List.getD_eq_getElem?_getD, List.getElem?_eq_getElem hio]; rfl
    rw [List.drop_eq_getElem_cons hio, plF, hg]
    have gi : ord[i]? = some (ord.getD i 0) := Ord.getI hio
    have ri := P.rng _ (List.mem_of_getElem? gi)
    have free := fun s hs' => uok_free P hll (by omega : i ≤ n) A U (s := s) hs'
    have e : ∀ (x : Int) k, k < n → sAt ord (slots.set (ord.getD i 0).toNat x) k = if k = i then x else sAt ord slots k := fun x k hk => sAt_set P hll hs hi x hk
    refine plF_greedy j (i + 1) _ _ (by omega) (by simpa using hs) ?_ ?_ hL
    · refine greedy_step P hll hs hi A ?_ ?_
      · rcases findF_del (fun x => decide (x < (i : Int))) u 0 with ⟨h1, _⟩ | ⟨t, h1, h2, h3⟩
        · have : slotOf i u = u.length := by unfold slotOf; rw [h1]; rfl
          rw [this]
          intro k hk hse
          have := U.b k hk
          omega
        · rw [Nat.zero_add] at h1
          have hst : slotOf i u = t := by unfold slotOf; rw [h1, if_neg (by omega)]; rfl
          rw [hst]
          refine (free t h2).1 ?_
          have hmem : ¬ (u.getD t 0) ∈ (u.take (t + 1)).filter (fun x => !decide (x < (i : Int))) ∨ u.getD t 0 < (i : Int) := by
            by_cases hlt : u.getD t 0 < (i : Int)
            · exact .inr hlt
            · left
              intro hm
              have hl : ((u.take (t + 1)).filter fun x => !decide (x < (i : Int))).length = (u.take t).length := by rw [h3]
              have htk : u.take (t + 1) = u.take t ++ [u.getD t 0] := by
                rw [List.take_add_one, List.getD_eq_getElem?_getD, List.getElem?_eq_getElem h2]; rfl
              rw [htk, List.filter_append, List.length_append] at hl
              have hall : (u.take t).filter (fun x => !decide (x < (i : Int))) = u.take t := by
                rw [List.filter_eq_self]
                intro y hy
                have : y ∈ (u.take (t + 1)).filter (fun x => !decide (x < (i : Int))) := by rw [h3]; exact hy
                exact (List.mem_filter.1 this).2
              rw [hall] at hl
              simp [hlt] at hl
              exact hlt (by rw [List.getD_eq_getElem?_getD]; exact hl)
          rcases hmem with hm | hm
          · apply Classical.byContradiction
            intro hlt
            refine hm ?_
            rw [List.mem_filter]
            refine ⟨?_, by simpa using hlt⟩
            rw [List.getD_eq_getElem?_getD, List.getElem?_eq_getElem h2]
            refine List.mem_of_getElem? (i := t) ?_
            rw [List.getElem?_take, if_pos (by omega), List.getElem?_eq_getElem h2]; rfl
          · exact hm
      · intro t ht
        have hb : ∀ t, t < slotOf i u → t < u.length ∧ ¬ u.getD t 0 < (i : Int) := by
          intro t ht
          rcases findF_del (fun x => decide (x < (i : Int))) u 0 with ⟨h1, h2⟩ | ⟨w, h1, h2, h3⟩
          · have hsl : slotOf i u = u.length := by unfold slotOf; rw [h1]; rfl
            rw [hsl] at ht
            refine ⟨ht, ?_⟩
            rw [List.filter_eq_self] at h2
            have := h2 (u.getD t 0) (by rw [List.getD_eq_getElem?_getD, List.getElem?_eq_getElem ht]; exact List.getElem_mem _)
            simpa using this
          · rw [Nat.zero_add] at h1
            have hsl : slotOf i u = w := by unfold slotOf; rw [h1, if_neg (by omega)]; rfl
            rw [hsl] at ht
            refine ⟨by omega, ?_⟩
            have hy : u.getD t 0 ∈ u.take w := by
              rw [List.getD_eq_getElem?_getD, List.getElem?_eq_getElem (show t < u.length by omega)]
              refine List.mem_of_getElem? (i := t) ?_
              rw [List.getElem?_take, if_pos ht, List.getElem?_eq_getElem (show t < u.length by omega)]; rfl
            rw [← h3] at hy
            have := (List.mem_filter.1 hy).2
            simpa using this
        obtain ⟨h1, h2⟩ := hb t ht
        rw [free t h1] at h2
        apply Classical.byContradiction
        intro hne
        refine h2 fun k hk hse => ?_
        apply Classical.byContradiction
        intro hc
        exact hne ⟨k, hk, hse, by omega⟩
    · -- what is known then
      have hsu : slotOf i u ≤ u.length := (slotOf_lt i u).1
      have hul : (stepU last i (ord.getD i 0).toNat u).length = max u.length (slotOf i u + 1) := by
        have := (slotOf_lt i u).2
        unfold stepU at this ⊢
        rw [List.length_set] at this ⊢
        exact this
      have hug : ∀ s : Nat, s < (stepU last i (ord.getD i 0).toNat u).length → (stepU last i (ord.getD i 0).toNat u).getD s 0 = if s = slotOf i u then lAt ord last i else u.getD s 0 := by
        intro s hs'
        rw [hul] at hs'
        unfold stepU
        rw [Ord.getD_set]
        by_cases e1 : slotOf i u = s
        · rw [if_pos e1.symm, if_pos]
          · rfl
          · refine ⟨e1, ?_⟩
            split
            · simp; omega
            · rename_i hf
              unfold slotOf
              rw [if_neg hf]
              rcases findF_lt (fun x => decide (x < (i : Int))) u 0 with h | ⟨w, h1, h2⟩
              · exact absurd h hf
              · rw [h1]; omega
        · rw [if_neg (fun h : slotOf i u = s ∧ _ => e1 h.1), if_neg (show ¬ s = slotOf i u from fun h => e1 h.symm)]
          split
          · rename_i hf
            have : slotOf i u = u.length := by unfold slotOf; rw [if_pos hf]
            rw [List.getD_eq_getElem?_getD, List.getElem?_append_left (by omega), ← List.getD_eq_getElem?_getD]
          · rfl
      refine ⟨fun k hk => ?_, fun s hs' => ?_⟩
      · rw [e _ k (by omega), hul]
        by_cases ek : k = i
        · rw [if_pos ek]; simp only; omega
        · rw [if_neg ek]
          have := U.b k (by omega)
          omega
      · rw [hug s hs']
        rw [hul] at hs'
        by_cases es : s = slotOf i u
        · rw [if_pos es]
          refine ⟨i, by omega, by rw [e _ i hi, if_pos rfl]; simp only [es], rfl, fun k' h1 h2 => by omega⟩
        · rw [if_neg es]
          obtain ⟨k, hk, k1, k2, k3⟩ := U.u s (by omega)
          refine ⟨k, by omega, by rw [e _ k (by omega), if_neg (by omega)]; exact k1, k2, fun k' h1 h2 => ?_⟩
          rw [e _ k' (by omega)]
          by_cases ek : k' = i
          · rw [if_pos ek]; exact fun h => es (by simp only at h; omega)
          · rw [if_neg ek]; exact k3 k' h1 (by omega)
end
end Go.Proofs.Ytcgbdndkfonphaa.Ai
namespace Go.Proofs.Ytcgbdndkfonphaa.Ai
open Go Go.Ai
section
variable (f : FlatV) (F : FitsS f) (G : GoodF f) (hK : Ord.okL (NC f) = true)
include F G hK
theorem ordL_ok : OrdOk f (ordL (NC f)) := by
  have e0 : ordL (NC f) = Ord.outL (NC f) := if_pos hK
  obtain ⟨k1, k2, k3⟩ := ord_facts (NC f) hK
  rw [← e0, NC_len] at k1
  rw [← e0, NC_len] at k2
  rw [← e0] at k3
  have P : PermO f.names.length (ordL (NC f)) := ⟨k1, k2, k3⟩
  refine ⟨P, fun v k hv hk hm => ?_⟩
  obtain ⟨ws, K⟩ := Ord.outL_ok (NC f)
  have hv2 := (P.pos v hv).2
  have hl := P.lt hv
  have := K.t (posO (ordL (NC f)) v) (by rw [← e0, k1]; exact hl) k (by
    rw [← e0, List.getD_eq_getElem?_getD, hv2]
    exact (need_NC f F G v k).2 hm)
  rw [← e0] at this
  obtain ⟨j, hj⟩ := List.getElem?_of_mem this
  rw [List.getElem?_take] at hj
  split at hj
  · rename_i h
    rw [P.at_ hj]; exact h
  · cases hj
abbrev plS : List Int := (slotsF f (ordL (NC f))).2
abbrev plN : Nat := (slotsF f (ordL (NC f))).1.length
abbrev plL : List Int := lastsR f (ordL (NC f))
omit F G hK in
theorem lastsR_len (ord : List Int) : (lastsR f ord).length = f.names.length := by simp [lastsR]
omit F G hK in
theorem lastsR_at {ord : List Int} (v : Nat) (hv : v < f.names.length) : (lastsR f ord).getD v 0 = lastR f ord v := by
  rw [List.getD_eq_getElem?_getD]; simp [lastsR, hv]
omit hK in
theorem lAt_pos {ord : List Int} (P : PermO f.names.length ord) (v : Nat) (hv : v < f.names.length) : lAt ord (lastsR f ord) (posO ord v) = lastR f ord v := by
  unfold lAt
  have e : (ord.getD (posO ord v) 0).toNat = v := by rw [List.getD_eq_getElem?_getD, (P.pos v hv).2]; simp
  rw [e, lastsR_at f v hv]
omit hK in
theorem sAt_pos {ord slots : List Int} (P : PermO f.names.length ord) (v : Nat) (hv : v < f.names.length) : sAt ord slots (posO ord v) = slots.getD v 0 := by
  unfold sAt
  have e : (ord.getD (posO ord v) 0).toNat = v := by rw [List.getD_eq_getElem?_getD, (P.pos v hv).2]; simp
  rw [e]
omit F G hK in
theorem at_pos {ord : List Int} (P : PermO f.names.length ord) (i : Nat) (hi : i < f.names.length) : ∃ v : Nat, v < f.names.length ∧ ord[i]? = some (v : Int) ∧ posO ord v = i := by
  have g := Ord.getI (l := ord) (n := i) (by rw [P.len]; exact hi)
  have r := P.rng _ (List.mem_of_getElem? g)
  refine ⟨(ord.getD i 0).toNat, by omega, ?_, ?_⟩
  · rw [Int.toNat_of_nonneg r.1]; exact g
  · exact P.at_ (by rw [Int.toNat_of_nonneg r.1]; exact g)
omit hK in
theorem lAt_ge {ord : List Int} (P : PermO f.names.length ord) (k : Nat) (hk : k < f.names.length) : (k : Int) ≤ lAt ord (lastsR f ord) k := by
  obtain ⟨v, h1, h2, h3⟩ := at_pos f P k hk
  have := lastR_ge f F G P v h1
  rw [← h3, lAt_pos f F G P v h1]; exact this
theorem pl_len : (plS f).length = f.names.length := by
  have P := (ordL_ok f F G hK).p
  unfold plS slotsF
  rw [plF_len, List.length_replicate, P.len]
theorem pl_greedy : Greedy (ordL (NC f)) (plS f) (plL f) f.names.length ∧ UOk (ord := ordL (NC f)) (last := plL f) (plS f) (slotsF f (ordL (NC f))).1 f.names.length := by
  have P := (ordL_ok f F G hK).p
  have hL := lastsR_len f (ordL (NC f))
  have h := plF_greedy P hL f.names.length 0 (List.replicate (ordL (NC f)).length 0) [] (by omega) (by simp [P.len]) (fun j hj => by omega) ⟨fun k hk => by omega, fun s hs => by simp at hs⟩ (fun k hk => lAt_ge f F G P k hk)
  rw [List.drop_zero] at h
  unfold plS slotsF
  rw [lastF_eq f F G P]
  exact h
theorem pl_apart : Apart (ordL (NC f)) (plS f) (plL f) f.names.length := fun i hi k hk hs => ((pl_greedy f F G hK).1 i hi).1 k hk hs
theorem pl_rng (v : Nat) (hv : v < f.names.length) : 0 ≤ (plS f).getD v 0 ∧ (plS f).getD v 0 < (plN f : Int) := by
  have P := (ordL_ok f F G hK).p
  have := (pl_greedy f F G hK).2.b (posO (ordL (NC f)) v) (P.lt hv)
  rw [sAt_pos f F G P v hv] at this
  exact this
theorem pl_right (hG : goodOk f = true) : rightF f (ordL (NC f)) (plS f) (plN f) = true := by
  have O := ordL_ok f F G hK
  have P := O.p
  have hl := pl_len f F G hK
  unfold rightF
  simp only [Bool.and_eq_true]
  refine ⟨⟨⟨⟨⟨hG, ?_⟩, ?_⟩, ?_⟩, ?_⟩, ?_⟩
  · rw [P.len]; exact beq_self_eq_true _
  · rw [hl]; exact beq_self_eq_true _
  · rw [Bool.not_eq_true', List.any_eq_false]
    intro s hs
    obtain ⟨v, hv⟩ := List.getElem?_of_mem hs
    have hvl := (List.getElem?_eq_some_iff.1 hv).1
    have := pl_rng f F G hK v (by omega)
    rw [List.getD_eq_getElem?_getD, hv] at this
    simp only [Option.getD_some] at this
    simp; omega
  · exact (ordered_iff f F G P.len).2 O
  · have A := pl_apart f F G hK
    have := liesOk_iff (ordL (NC f)) (plS f) (plL f) f.names.length 0 (fun _ => none) (by rw [P.len]; omega) (fun s => .inl ⟨rfl, fun k hk => by omega⟩) (fun i hi => by omega)
    rw [List.drop_zero, P.len] at this
    rw [lastF_eq f F G P]
    exact this.2 A
end
end Go.Proofs.Ytcgbdndkfonphaa.Ai
namespace Go.Proofs.Ytcgbdndkfonphaa.Ai
open Go Go.Ai
variable {call : CallF} {mt : MtF} {md : FuncId → Md}
theorem small15_c (f : FlatV) (H : List AO) (id : Nat) : callV cw mds 15 [.agg f.cs] H id = some (.val (litB (small25 f)) none) := small15_call f H id
theorem store_pl (f : FlatV) (R : List AO) {O S : AV} {o s : List Int} (hO : RowA O o) (hS : RowA S s) (m : Int) (x : List AV) (hx : x.length = 3) (r : Nat) (H : List AO) (h : H[r]? = some (.row x 32)) : storeAt H 3 (.ptr r 0) (planA O S m) = some (setL H r (.row [O, S, litI .i64 m] 32)) :=
  storeAt_agg (cs := x) h hx rfl (by simp [hO.cell.1, hS.cell.1]; rfl)
abbrev zPl : List AV := [.sl 0 [] (some 0), .sl 0 [] (some 0), litI .i64 0]
theorem planFits7_tells (f : FlatV) : ∃ H', cw 7 [flatA f] [] = some (.ret (litB true), H') := by
  have lA0 : Ai.load [.row f.cs 29] (some 8) (.ptr 0 0) = some (.agg f.cs) := load_agg rfl rfl
  have hsm := small15_c f
  have haw := awake18_call
  cases hs : small25 f with
  | false =>
    rw [hs] at hsm
    refine ⟨_, cw_of fn7 (c := c7) (r := (.ret (litB true), [.row f.cs 29])) rfl rfl rfl rfl ?_⟩
    simp -implicitDefEqProofs only [c7, aW, ↓aP, makes, Nat.reduceLT, Nat.reduceEqDiff, Nat.reduceAdd, core_box, flat_f, List.length_nil, List.length_cons, lA0, hsm]
    rfl
  | true =>
    rw [hs] at hsm
    have F := fitsS_of f hs
    cases hp : planOk f with
    | false =>
      have h1 : ∀ H id, callV cw mds 16 [.agg f.cs] H id = _ := fun H id => planOf_bad f F hp H id
      have he : (errA (goodOk f) (Ord.okL (NC f)) != 0) = true := by
        unfold planOk at hp
        cases h1 : goodOk f with
        | false => rfl
        | true => rw [h1, Bool.true_and] at hp; rw [hp]; rfl
      have st1 : storeAt [.row f.cs 29, .row zPl 32] 3 (.ptr 1 0) (planA (.sl 0 [] (some 0)) (.sl 0 [] (some 0)) 0) = some [.row f.cs 29, .row zPl 32] := store_pl f [] RowA.nil RowA.nil 0 _ rfl _ _ rfl
      have l0 : Ai.load [.row f.cs 29, .row zPl 32] none (.ptr 1 0) = some (.sl 0 [] (some 0)) := rfl
      have l1 : Ai.load [.row f.cs 29, .row zPl 32] none (.ptr 1 1) = some (.sl 0 [] (some 0)) := rfl
      have l2 : Ai.load [.row f.cs 29, .row zPl 32] none (.ptr 1 2) = some (litI .i64 0) := rfl
      have w0 : IntKind.wrap .i64 (0 + 0) = 0 := rfl
      refine ⟨_, cw_of fn7 (c := c7) (r := (.ret (litB true), [.row f.cs 29, .row zPl 32])) rfl rfl rfl rfl ?_⟩
      simp -implicitDefEqProofs only [c7, aW, ↓aP, makes, Nat.reduceLT, Nat.reduceEqDiff, Nat.reduceAdd, core_box, flat_f, List.length_nil, List.length_cons, lA0, hsm, h1, st1, he, fadr_ptr, l0, l1, l2, Int.natCast_zero, w0, haw]
      rfl
    | true =>
      obtain ⟨B, hB, h1⟩ := planOf_good f F hp
      have h1 : ∀ H id, callV cw mds 16 [.agg f.cs] H id = some (.val (.tup [planA B (rowC (plS f) (some (ordL (NC f)).length)) (plN f), litI .i64 0]) none) := h1
      unfold planOk at hp
      rw [Bool.and_eq_true] at hp
      obtain ⟨hG, hK⟩ := hp
      have G := goodF_of hG
      have hn := F.names
      have P := (ordL_ok f F G hK).p
      have hl := pl_len f F G hK
      have hS := RowA.of (plS f) (some (ordL (NC f)).length)
      generalize hSd : rowC (plS f) (some (ordL (NC f)).length) = S at hS h1
      have st1 : storeAt [.row f.cs 29, .row zPl 32] 3 (.ptr 1 0) (planA B S (plN f)) = some [.row f.cs 29, .row [B, S, litI .i64 (plN f)] 32] := store_pl f [] hB hS _ _ rfl _ _ rfl
      have lA1 : Ai.load [.row f.cs 29, .row [B, S, litI .i64 (plN f)] 32] (some 8) (.ptr 0 0) = some (.agg f.cs) := load_agg rfl rfl
      have lP1 : Ai.load [.row f.cs 29, .row [B, S, litI .i64 (plN f)] 32] (some 3) (.ptr 1 0) = some (planA B S (plN f)) := load_agg rfl rfl
      have hr : ∀ H id, callV cw mds 19 [.agg f.cs, planA B S (plN f)] H id = some (.val (litB true) none) := fun H id => by
        have := pright_call f F hB hS (by rw [P.len]; omega) (by rw [hl]; omega) (plN f) H id
        rw [pl_right f F G hK hG] at this
        exact this
      refine ⟨_, cw_of fn7 (c := c7) (r := (.ret (litB true), [.row f.cs 29, .row [B, S, litI .i64 (plN f)] 32])) rfl rfl rfl rfl ?_⟩
      simp -implicitDefEqProofs only [c7, aW, ↓aP, makes, Nat.reduceLT, Nat.reduceEqDiff, Nat.reduceAdd, core_box, flat_f, List.length_nil, List.length_cons, lA0, hsm, h1, st1, lA1, lP1, bne_self_eq_false, hr, haw]
      rfl
end Go.Proofs.Ytcgbdndkfonphaa.Ai
namespace Go.Proofs.Ytcgbdndkfonphaa.Ai
open Go Go.Ai
set_option maxRecDepth 100000
theorem flat_arg {a : AV} (h : argSh Try.prog 29 tFlat a) : ∃ f : FlatV, a = flatA f := by
  unfold argSh at h
  rw [Try.underlying29] at h
  simp only at h
  obtain ⟨xs, rfl, h2⟩ := h
  obtain ⟨f, rfl⟩ := flat_sh h2
  exact ⟨f, rfl⟩
end Go.Proofs.Ytcgbdndkfonphaa.Ai
