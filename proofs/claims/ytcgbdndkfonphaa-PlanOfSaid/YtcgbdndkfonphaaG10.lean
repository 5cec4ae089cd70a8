/- Seat of layers 14 and 15: the document's Of is told. No condition. -/
import Derived.Test.YtcgbdndkfonphaaG9
set_option linter.unusedSimpArgs false
set_option linter.unusedVariables false
set_option linter.unusedSectionVars false
open Nat (reduceLT reduceEqDiff reduceAdd)
namespace Go.Proofs.Ytcgbdndkfonphaa.Ai
open Go Go.Ai
variable {call : CallF} {mt : MtF} {md : FuncId → Md}
def takenL (last slots : List Int) (i : Nat) (s : Int) (l : List Int) : Bool := l.any fun v => slots.getD v.toNat 0 == s && decide (last.getD v.toNat 0 ≥ (i : Int))
def ofH (f : FlatV) (B : AV) (n : Nat) (slots : List Int) (m : Int) : List AO := [.row f.cs 29, .row [.sl 0 [] (some 0), .sl 0 [] (some 0), litI .i64 0] 32, .row (cellsI slots) 3, .row [B, .own 2 0 n 1 (some n), litI .i64 m] 32]
section
variable (f : FlatV) (B : AV) (ord : List Int) (hB : RowA B ord) (last : List Int) (c : Option Nat) (n : Nat) (hll : last.length = n) (hr : ∀ x ∈ ord, 0 ≤ x ∧ x < (n : Int)) (hol : ord.length ≤ 100000)
include hB hll hr hol
theorem ro11_0 (v2 : AV) (i : Nat) (hi : i ≤ ord.length) (s : Int) (slots : List Int) (hsl : slots.length = n) (m : Int) : ∀ (j k : Nat) (tk : Bool), j + k = i →
    loopW (codeW cw (lookM mtl) mds c11l0) [2, 4, 6, 7, 8, 9, 10, 11] [(2, v2), (4, B), (6, rowC last c), (7, .ptr 3 0), (8, litI .i64 i), (9, litI .i64 s), (10, litB tk), (11, litI .i64 k)] (ofH f B n slots m) =
      some (.exit 4, [(2, v2), (4, B), (6, rowC last c), (7, .ptr 3 0), (8, litI .i64 i), (9, litI .i64 s), (10, litB (tk || takenL last slots i s ((ord.take i).drop k))), (11, litI .i64 i), (43, litB false)], ofH f B n slots m)
  | 0, k, tk, h => by
    have hk : k = i := by omega
    subst hk
    rw [List.drop_of_length_le (by simp; omega), show takenL last slots k s [] = false from rfl, Bool.or_false]
    refine loopW_out ?_ (by simp)
    simp -implicitDefEqProofs only [c11l0, aW, ↓aP, makes, reduceLT, reduceEqDiff, reduceAdd, Int.lt_irrefl]
  | j + 1, k, tk, h => by
    have hk : k < i := by omega
    have hlt : (k : Int) < i := by omega
    have hko : k < ord.length := by omega
    have hg : ord[k]? = some ord[k] := List.getElem?_eq_getElem hko
    have hx := hr _ (List.getElem_mem hko)
    have hd : (ord.take i).drop k = ord[k] :: (ord.take i).drop (k + 1) := by
      rw [List.drop_eq_getElem_cons (by simp; omega)]; simp
    rw [hd]
    generalize ord[k] = v at hg hx
    have l71 : Ai.load (ofH f B n slots m) none (.ptr 3 1) = some (.own 2 0 n 1 (some n)) := rfl
    have ia := iadr_ownI (r := 2) (n := n) (c := some n) hx.1 hx.2
    have ls : Ai.load (ofH f B n slots m) none (.ptr 2 v.toNat) = some (litI .i64 (slots.getD v.toNat 0)) := by
      rw [load_ptr (H := ofH f B n slots m) (r := 2) (cs := cellsI slots) (t := 3) rfl, cellsI_at, Ord.getI (by omega)]; rfl
    have iL : iadr 1 (rowC last c) (litI .i64 v) = some (.ip [litI .i64 (last.getD v.toNat 0)]) := by
      have := iadr_row last c v.toNat
      rw [Int.toNat_of_nonneg hx.1, Ord.getI (by omega)] at this
      exact this
    have hw := wrap1 (show k < 4611686018427387904 by omega)
    have ih := fun tk => ro11_0 v2 i hi s slots hsl m j (k + 1) tk (by omega)
    have tc : ∀ r, takenL last slots i s (v :: r) = ((slots.getD v.toNat 0 == s && decide (last.getD v.toNat 0 ≥ (i : Int))) || takenL last slots i s r) := fun r => by simp only [takenL, List.any_cons]
    rw [tc]
    cases h1 : (slots.getD v.toNat 0 == s) with
    | false =>
      rw [Bool.false_and, Bool.false_or]
      refine loopW_round ?_ (ih tk)
      simp -implicitDefEqProofs only [c11l0, aW, ↓aP, makes, reduceLT, reduceEqDiff, reduceAdd, hlt, fadr_ptr, Nat.zero_add, l71, hB.iadr hg, load_ip1, ia, ls, h1, hw]
    | true =>
      by_cases h2 : last.getD v.toNat 0 ≥ (i : Int)
      · rw [decide_eq_true h2, Bool.true_and, Bool.true_or, Bool.or_true]
        have ih := ih true
        rw [Bool.true_or] at ih
        refine loopW_round ?_ ih
        simp -implicitDefEqProofs only [c11l0, aW, ↓aP, makes, reduceLT, reduceEqDiff, reduceAdd, hlt, fadr_ptr, Nat.zero_add, l71, hB.iadr hg, load_ip1, ia, ls, h1, iL, h2, hw]
      · rw [decide_eq_false h2, Bool.and_false, Bool.false_or]
        refine loopW_round ?_ (ih tk)
        simp -implicitDefEqProofs only [c11l0, aW, ↓aP, makes, reduceLT, reduceEqDiff, reduceAdd, hlt, fadr_ptr, Nat.zero_add, l71, hB.iadr hg, load_ip1, ia, ls, h1, iL, h2, hw]
theorem ro11_1 (v2 : AV) (i : Nat) (hi : i ≤ ord.length) (slots : List Int) (hsl : slots.length = n) (m : Int) : ∀ (j s : Nat), s + j ≤ 1000000 → (∀ x : Nat, s ≤ x → x < s + j → takenL last slots i x (ord.take i) = true) → takenL last slots i ((s + j : Nat) : Int) (ord.take i) = false →
    loopW (codeW cw (lookM mtl) mds c11l1) [2, 4, 6, 7, 8, 9, 10] [(2, v2), (4, B), (6, rowC last c), (7, .ptr 3 0), (8, litI .i64 i), (9, litI .i64 s), (10, litB true)] (ofH f B n slots m) =
      some (.exit 2, [(2, v2), (4, B), (6, rowC last c), (7, .ptr 3 0), (8, litI .i64 i), (9, litI .i64 (s + j : Nat)), (40, litB false)], ofH f B n slots m)
  | 0, s, hb, ht, hf => by
    have L := ro11_0 f B ord hB last c n hll hr hol v2 i hi s slots hsl m i 0 false (by omega)
    rw [show ((0 : Nat) : Int) = 0 from rfl, List.drop_zero, Bool.false_or] at L
    rw [Nat.add_zero] at hf
    rw [hf] at L
    refine loopW_next (fr1 := [(2, v2), (4, B), (6, rowC last c), (7, .ptr 3 0), (8, litI .i64 i), (9, litI .i64 s), (10, litB false), (67, litB false)]) (H' := ofH f B n slots m) ?_ rfl (loopW_out ?_ (by simp))
    · simp -implicitDefEqProofs only [c11l1, aW, ↓aP, makes, reduceLT, reduceEqDiff, reduceAdd, L]
    · simp -implicitDefEqProofs only [c11l1, aW, ↓aP, makes, reduceLT, reduceEqDiff, reduceAdd, Nat.add_zero]
  | j + 1, s, hb, ht, hf => by
    have L := ro11_0 f B ord hB last c n hll hr hol v2 i hi s slots hsl m i 0 false (by omega)
    rw [show ((0 : Nat) : Int) = 0 from rfl, List.drop_zero, Bool.false_or] at L
    rw [ht s (Nat.le_refl _) (by omega)] at L
    have hw := wrap1 (show s < 4611686018427387904 by omega)
    have ih := ro11_1 v2 i hi slots hsl m j (s + 1) (by omega) (fun x h1 h2 => ht x (by omega) (by omega)) (by rw [show s + 1 + j = s + (j + 1) by omega]; exact hf)
    rw [show s + 1 + j = s + (j + 1) by omega] at ih
    refine loopW_round ?_ ih
    simp -implicitDefEqProofs only [c11l1, aW, ↓aP, makes, reduceLT, reduceEqDiff, reduceAdd, L, hw]
def slotR (last slots ord : List Int) (i : Nat) : Nat := ((List.range (i + 1)).find? fun s : Nat => !takenL last slots i s (ord.take i)).getD 0
def ofR (last ord : List Int) : Nat → List Int → List Int × Int → List Int × Int
  | _, [], s => s
  | i, v :: r, s => ofR last ord (i + 1) r (s.1.set v.toNat (slotR last s.1 ord i), max s.2 ((slotR last s.1 ord i + 1 : Nat) : Int))
omit hB hll hr hol in
theorem slotR_spec (slots : List Int) (i : Nat) (hi : i ≤ ord.length) : slotR last slots ord i ≤ i ∧ takenL last slots i (slotR last slots ord i) (ord.take i) = false ∧ ∀ x : Nat, x < slotR last slots ord i → takenL last slots i x (ord.take i) = true := by
  have ex : ∃ x, x < i + 1 ∧ takenL last slots i (x : Nat) (ord.take i) = false := by
    apply Classical.byContradiction
    intro hne
    have all : ∀ x, x < i + 1 → takenL last slots i (x : Nat) (ord.take i) = true := by
      intro x hx
      cases h : takenL last slots i (x : Nat) (ord.take i) with
      | true => rfl
      | false => exact absurd ⟨x, hx, h⟩ hne
    have hsub : ∀ x ∈ List.range (i + 1), x ∈ (ord.take i).map fun v => (slots.getD v.toNat 0).toNat := by
      intro x hx
      have := all x (List.mem_range.1 hx)
      unfold takenL at this
      rw [List.any_eq_true] at this
      obtain ⟨v, hv, h⟩ := this
      rw [Bool.and_eq_true, beq_iff_eq] at h
      exact List.mem_map.2 ⟨v, hv, by rw [h.1]; rfl⟩
    have := nodup_le List.nodup_range hsub
    simp at this; omega
  unfold slotR
  cases hf : (List.range (i + 1)).find? (fun s : Nat => !takenL last slots i s (ord.take i)) with
  | none =>
    exfalso
    rw [List.find?_eq_none] at hf
    obtain ⟨x, hx, h⟩ := ex
    have := hf x (List.mem_range.2 hx)
    simp [h] at this
  | some s =>
    have hm := List.mem_range.1 (List.mem_of_find?_eq_some hf)
    have hp := List.find?_some hf
    simp only [Bool.not_eq_true'] at hp
    refine ⟨by simp; omega, hp, fun x hx => ?_⟩
    simp only [Option.getD_some] at hx
    rw [List.find?_range_eq_some] at hf
    have := hf.2.2 x hx
    simpa using this
theorem ro11_2 (v2 : AV) : ∀ (j i : Nat) (slots : List Int) (m : Int), j + i = ord.length → slots.length = n → 0 ≤ m → m ≤ 1000000 →
    loopW (codeW cw (lookM mtl) mds c11l2) [2, 4, 6, 7, 8] [(2, v2), (4, B), (6, rowC last c), (7, .ptr 3 0), (8, litI .i64 i)] (ofH f B n slots m) =
      some (.exit 0, [(2, v2), (4, B), (6, rowC last c), (7, .ptr 3 0), (8, litI .i64 ord.length), (37, litB false)], ofH f B n (ofR last ord i (ord.drop i) (slots, m)).1 (ofR last ord i (ord.drop i) (slots, m)).2)
  | 0, i, slots, m, h, hsl, h0, h1 => by
    have hi : i = ord.length := by omega
    subst hi
    rw [List.drop_length, ofR]
    refine loopW_out ?_ (by simp)
    simp -implicitDefEqProofs only [c11l2, aW, ↓aP, makes, reduceLT, reduceEqDiff, reduceAdd, hB.lenV, Int.lt_irrefl]
  | j + 1, i, slots, m, h, hsl, h0, h1 => by
    have hi : i < ord.length := by omega
    have hg : ord[i]? = some ord[i] := List.getElem?_eq_getElem hi
    have hlt : (i : Int) < ord.length := by omega
    have hx := hr _ (List.getElem_mem hi)
    obtain ⟨s1, s2, s3⟩ := slotR_spec ord last slots i (by omega)
    rw [List.drop_eq_getElem_cons hi, ofR]
    generalize ord[i] = v at hg hx
    have L := ro11_1 f B ord hB last c n hll hr hol v2 i (by omega) slots hsl m (slotR last slots ord i) 0 (by omega) (fun x _ hx => s3 x (by omega)) (by rw [Nat.zero_add]; exact s2)
    rw [Nat.zero_add, show ((0 : Nat) : Int) = 0 from rfl] at L
    generalize slotR last slots ord i = sl at L s1
    have l71 : Ai.load (ofH f B n slots m) none (.ptr 3 1) = some (.own 2 0 n 1 (some n)) := rfl
    have ia := iadr_ownI (r := 2) (n := n) (c := some n) hx.1 hx.2
    have st : storeAt (ofH f B n slots m) 1 (.ptr 2 v.toNat) (litI .i64 sl) = some (ofH f B n (slots.set v.toNat sl) m) := by
      rw [store_ptr (H := ofH f B n slots m) (r := 2) (cs := cellsI slots) (t := 3) rfl (by rw [cellsI_len]; omega) rfl rfl]
      have e : (cellsI slots).set v.toNat (litI .i64 sl) = cellsI (slots.set v.toNat sl) := by simp [cellsI]
      rw [e]; rfl
    have l72 : Ai.load (ofH f B n (slots.set v.toNat sl) m) none (.ptr 3 2) = some (litI .i64 m) := rfl
    have st2 : storeAt (ofH f B n (slots.set v.toNat sl) m) 1 (.ptr 3 2) (litI .i64 (max m ((sl + 1 : Nat) : Int))) = some (ofH f B n (slots.set v.toNat sl) (max m ((sl + 1 : Nat) : Int))) := by
      rw [store_ptr (H := ofH f B n (slots.set v.toNat sl) m) (r := 3) (cs := [B, .own 2 0 n 1 (some n), litI .i64 m]) (t := 32) rfl (by simp) rfl rfl]; rfl
    have hws := wrap1 (show sl < 4611686018427387904 by omega)
    have hw := wrap1 (show i < 4611686018427387904 by omega)
    refine loopW_round ?_ (ro11_2 v2 j (i + 1) (slots.set v.toNat sl) (max m ((sl + 1 : Nat) : Int)) (by omega) (by simpa using hsl) (by omega) (by omega))
    simp -implicitDefEqProofs only [c11l2, aW, ↓aP, makes, reduceLT, reduceEqDiff, reduceAdd, hB.lenV, hlt, L, fadr_ptr, Nat.zero_add, l71, hB.iadr hg, load_ip1, ia, st, l72, hws, core_maxi2 79 81 .i64 m ((sl + 1 : Nat) : Int), st2, hw]
end
end Go.Proofs.Ytcgbdndkfonphaa.Ai
namespace Go.Proofs.Ytcgbdndkfonphaa.Ai
open Go Go.Ai
variable {call : CallF} {mt : MtF} {md : FuncId → Md}
theorem kR_facts (g : List (List Int)) : ∀ (m : Nat) (done : List Bool) (out l : List Int), kR g m done out = some l → l.length = out.length + m ∧ ((∀ x ∈ out, 0 ≤ x ∧ x < (g.length : Int)) → ∀ x ∈ l, 0 ≤ x ∧ x < (g.length : Int))
  | 0, done, out, l, h => by
    rw [kR] at h; simp only [sI] at h; subst h
    exact ⟨rfl, fun h => h⟩
  | m + 1, done, out, l, h => by
    rw [kR] at h
    cases hx : nextI g done with
    | none => rw [hx] at h; cases h
    | some i =>
      rw [hx] at h
      simp only at h
      obtain ⟨h1, h2⟩ := kR_facts g m _ _ l h
      refine ⟨by rw [h1]; simp; omega, fun ho => h2 fun x hxm => ?_⟩
      rcases List.mem_append.1 hxm with hxm | hxm
      · exact ho x hxm
      · simp only [List.mem_cons, List.not_mem_nil, or_false] at hxm
        have := nextI_lt hx
        rw [hxm]; omega
theorem ordRef_facts {g : List (List Int)} {l : List Int} (h : ordRef g = some l) : l.length = g.length ∧ ∀ x ∈ l, 0 ≤ x ∧ x < (g.length : Int) := by
  obtain ⟨h1, h2⟩ := kR_facts g _ _ _ l h
  exact ⟨by rw [h1]; simp, h2 (by simp)⟩
theorem rof_bad (f : FlatV) (F : FitsS f) (hp : goodOk f = false ∨ ordRef (NR f) = none) (H : List AO) (id : Nat) : callV cw mds 11 [flatA f] H id = some (.val (.tup [planA (.sl 0 [] (some 0)) (.sl 0 [] (some 0)) 0, litI .i64 (if goodOk f = true then 140 else 1)]) none) := by
  have hgc : ∀ H id, callV cw mds 25 [.agg f.cs] H id = some (.val (litB (goodOk f)) none) := fun H id => by rw [good_eq]; exact rgood_call f F.fits H id
  have lA : Ai.load [.row f.cs 29, .row [.sl 0 [] (some 0), .sl 0 [] (some 0), litI .i64 0] 32] (some 8) (.ptr 0 0) = some (.agg f.cs) := load_agg rfl rfl
  have hb0 : buildV [.sl 0 [] (some 0), .sl 0 [] (some 0), litI .i64 0] [] = some (.val (.agg [.sl 0 [] (some 0), .sl 0 [] (some 0), litI .i64 0]) none) := rfl
  have st : storeAt [.row f.cs 29, .row [.sl 0 [] (some 0), .sl 0 [] (some 0), litI .i64 0] 32] 3 (.ptr 1 0) (.agg [.sl 0 [] (some 0), .sl 0 [] (some 0), litI .i64 0]) = some [.row f.cs 29, .row [.sl 0 [] (some 0), .sl 0 [] (some 0), litI .i64 0] 32] := rfl
  cases hG : goodOk f with
  | false =>
    rw [hG] at hgc
    refine callV_frz (a := .tup [planA (.sl 0 [] (some 0)) (.sl 0 [] (some 0)) 0, litI .i64 1]) (H' := [.row f.cs 29, .row [.sl 0 [] (some 0), .sl 0 [] (some 0), litI .i64 0] 32]) (ids := []) rfl rfl ?_ rfl
    refine cw_of fn11 (c := c11) rfl rfl rfl rfl ?_
    simp -implicitDefEqProofs only [c11, aW, ↓aP, makes, reduceLT, reduceEqDiff, reduceAdd, core_box, flat_f, List.length_nil, List.length_cons, lA, hgc, core_build, hb0, st]
    rfl
  | true =>
    rw [hG] at hgc
    have hno : ordRef (NR f) = none := hp.resolve_left (by rw [hG]; simp)
    have G := goodF_of hG
    obtain ⟨A, hA, hN⟩ := needs27_call f F hG
    have hNc : ∀ H id, callV cw mds 27 [.agg f.cs] H id = some (.val A none) := hN
    obtain ⟨B, hB, hO⟩ := rorder_call hA (fun r hr => by have := NR_60 f F G r hr; omega) (by have := F.names; rw [NR_len]; omega)
    rw [hno] at hO
    refine callV_frz (a := .tup [planA (.sl 0 [] (some 0)) (.sl 0 [] (some 0)) 0, litI .i64 140]) (H' := [.row f.cs 29, .row [.sl 0 [] (some 0), .sl 0 [] (some 0), litI .i64 0] 32]) (ids := []) rfl rfl ?_ rfl
    refine cw_of fn11 (c := c11) rfl rfl rfl rfl ?_
    simp -implicitDefEqProofs only [c11, aW, ↓aP, makes, reduceLT, reduceEqDiff, reduceAdd, core_box, flat_f, List.length_nil, List.length_cons, lA, hgc, core_build, hb0, st, hNc, hO, Option.isSome_none]
    rfl
theorem rof_good (f : FlatV) (F : FitsS f) (hG : goodOk f = true) {ord : List Int} (ho : ordRef (NR f) = some ord) : ∃ B, RowA B ord ∧ ∀ H id, callV cw mds 11 [flatA f] H id = some (.val (.tup [planA B (rowC (ofR (lastsR f ord) ord 0 ord (List.replicate f.names.length 0, 0)).1 (some f.names.length)) (ofR (lastsR f ord) ord 0 ord (List.replicate f.names.length 0, 0)).2, litI .i64 0]) none) := by
  have G := goodF_of hG
  have hnn := F.names
  obtain ⟨k1, k2⟩ := ordRef_facts ho
  rw [NR_len] at k1 k2
  have hgc : ∀ H id, callV cw mds 25 [.agg f.cs] H id = some (.val (litB true) none) := fun H id => by rw [← hG, good_eq]; exact rgood_call f F.fits H id
  obtain ⟨A, hA, hN⟩ := needs27_call f F hG
  have hNc : ∀ H id, callV cw mds 27 [.agg f.cs] H id = some (.val A none) := hN
  obtain ⟨B, hB, hO⟩ := rorder_call hA (fun r hr => by have := NR_60 f F G r hr; omega) (by rw [NR_len]; omega)
  rw [ho] at hB hO
  simp only [Option.getD_some, Option.isSome_some] at hB hO
  refine ⟨B, hB, fun H id => ?_⟩
  have hLc : ∀ H id, callV cw mds 21 [.agg f.cs, B] H id = some (.val (rowC (lastsR f ord) (some f.names.length)) none) := fun H id => lasts_call f F hG hB (by omega) H id
  have lA : Ai.load [.row f.cs 29, .row [.sl 0 [] (some 0), .sl 0 [] (some 0), litI .i64 0] 32] (some 8) (.ptr 0 0) = some (.agg f.cs) := load_agg rfl rfl
  have l1 : Ai.load [.row f.cs 29, .row [.sl 0 [] (some 0), .sl 0 [] (some 0), litI .i64 0] 32] none (.ptr 0 1) = some (strs f.names) := rfl
  have hm1 := mksV_ok (id := 2) (e := 1) (bytes := 8) (z := [litI .i64 0]) (t := 3) (n := f.names.length) (by omega) (by omega)
  rw [reps_one] at hm1
  obtain ⟨eB, xB, cB, eqB⟩ := hB.cases
  have hb3 : buildV [.sl 0 [] (some 0), .sl 0 [] (some 0), litI .i64 0] [(0, 1, B), (1, 1, .own 2 0 f.names.length 1 (some f.names.length))] = some (.val (.agg [B, .own 2 0 f.names.length 1 (some f.names.length), litI .i64 0]) none) := by rw [eqB]; rfl
  have hz : cellsI (List.replicate f.names.length 0) = List.replicate f.names.length (litI .i64 0) := by simp [cellsI]
  have st4 : storeAt [.row f.cs 29, .row [.sl 0 [] (some 0), .sl 0 [] (some 0), litI .i64 0] 32, .row (List.replicate f.names.length (litI .i64 0)) 3, .row [.sl 0 [] (some 0), .sl 0 [] (some 0), litI .i64 0] 32] 3 (.ptr 3 0) (.agg [B, .own 2 0 f.names.length 1 (some f.names.length), litI .i64 0]) = some (ofH f B f.names.length (List.replicate f.names.length 0) 0) := by
    rw [storeAt_agg (r := 3) (n := 3) (cs := [.sl 0 [] (some 0), .sl 0 [] (some 0), litI .i64 0]) (t := 32) rfl rfl rfl (by rw [eqB]; rfl)]
    unfold ofH
    rw [hz]; rfl
  have L := ro11_2 f B ord hB (lastsR f ord) (some f.names.length) f.names.length (by simp [lastsR]) k2 (by omega) (.ptr 1 0) ord.length 0 (List.replicate f.names.length 0) 0 (by omega) (by simp) (Int.le_refl _) (by omega)
  rw [show ((0 : Nat) : Int) = 0 from rfl, List.drop_zero] at L
  have hlen : (ofR (lastsR f ord) ord 0 ord (List.replicate f.names.length 0, 0)).1.length = f.names.length := by
    have : ∀ (r : List Int) (i : Nat) (s : List Int × Int), (ofR (lastsR f ord) ord i r s).1.length = s.1.length := by
      intro r
      induction r with
      | nil => intros; rfl
      | cons v r ih => intro i s; rw [ofR, ih]; simp
    rw [this]; simp
  generalize (ofR (lastsR f ord) ord 0 ord (List.replicate f.names.length 0, 0)).1 = S at L hlen ⊢
  generalize (ofR (lastsR f ord) ord 0 ord (List.replicate f.names.length 0, 0)).2 = m at L ⊢
  have l6 : Ai.load (ofH f B f.names.length S m) (some 3) (.ptr 3 0) = some (.agg [B, .own 2 0 f.names.length 1 (some f.names.length), litI .i64 m]) := load_agg rfl rfl
  have st7 : storeAt (ofH f B f.names.length S m) 3 (.ptr 1 0) (.agg [B, .own 2 0 f.names.length 1 (some f.names.length), litI .i64 m]) = some (setL (ofH f B f.names.length S m) 1 (.row [B, .own 2 0 f.names.length 1 (some f.names.length), litI .i64 m] 32)) := storeAt_agg (H := ofH f B f.names.length S m) (r := 1) (cs := [.sl 0 [] (some 0), .sl 0 [] (some 0), litI .i64 0]) (t := 32) rfl rfl rfl (by rw [eqB]; rfl)
  have g3 : (setL (ofH f B f.names.length S m) 1 (.row [B, .own 2 0 f.names.length 1 (some f.names.length), litI .i64 m] 32))[2]? = some (.row (cellsI S) 3) := rfl
  have g7 : (setL (ofH f B f.names.length S m) 1 (.row [B, .own 2 0 f.names.length 1 (some f.names.length), litI .i64 m] 32))[1]? = some (.row [B, .own 2 0 f.names.length 1 (some f.names.length), litI .i64 m] 32) := rfl
  generalize setL (ofH f B f.names.length S m) 1 (.row [B, .own 2 0 f.names.length 1 (some f.names.length), litI .i64 m] 32) = H7 at st7 g3 g7
  have lR : Ai.load H7 (some 3) (.ptr 1 0) = some (.agg [B, .own 2 0 f.names.length 1 (some f.names.length), litI .i64 m]) := load_agg g7 rfl
  have fz := Ord.frz_ints (H := H7) (p := 2) (k := 12) (c := some f.names.length) (l := S) (z := []) (t := 3) (n := f.names.length) (by rw [List.append_nil]; exact g3) rfl hlen.symm
  refine callV_frz (a := .tup [.agg [B, .own 2 0 f.names.length 1 (some f.names.length), litI .i64 m], litI .i64 0]) (H' := H7) (ids := ([] ++ ([2] ++ ([] ++ []))) ++ ([] ++ [])) rfl rfl ?_ ?_
  · refine cw_of fn11 (c := c11) rfl rfl rfl rfl ?_
    simp -implicitDefEqProofs only [c11, aW, ↓aP, makes, reduceLT, reduceEqDiff, reduceAdd, core_box, flat_f, List.length_nil, List.length_cons, lA, hgc, hNc, hO, hLc, fadr_ptr, Nat.zero_add, l1, lenV_strs, hm1, core_build, hb3, st4, L, l6, st7]
    simp only [Option.bind_some, fin, fn11, res, resL, resV, get_cons, get_nil, if_true, lR]
    rfl
  · rw [show frzF = 12 + 2 + 1 + 1 from rfl, frz]
    simp only [mapL]
    rw [frz]
    simp only [mapL, fz, Option.bind_some]
    rw [eqB]
    rfl
end Go.Proofs.Ytcgbdndkfonphaa.Ai
namespace Go.Proofs.Ytcgbdndkfonphaa.Ai
open Go Go.Ai
variable {call : CallF} {mt : MtF} {md : FuncId → Md}
theorem placeF_spec (v : Int) : ∀ (r : List Int) (n : Nat), (placeF v n r = -1 ∧ ¬ v ∈ r) ∨ ∃ j : Nat, placeF v n r = ((n + j : Nat) : Int) ∧ r[j]? = some v ∧ ¬ v ∈ r.take j
  | [], n => .inl ⟨rfl, by simp⟩
  | x :: r, n => by
    rw [placeF]
    by_cases h : x = v
    · right; rw [if_pos h]; exact ⟨0, rfl, by simp [h], by simp⟩
    · rw [if_neg h]
      rcases placeF_spec v r (n + 1) with ⟨h1, h2⟩ | ⟨j, h1, h2, h3⟩
      · left; exact ⟨h1, by simp [Ne.symm h, h2]⟩
      · right; refine ⟨j + 1, by rw [h1]; congr 1; omega, by simpa using h2, ?_⟩
        rw [List.take_succ_cons, List.mem_cons]
        rintro (h4 | h4)
        · exact h h4.symm
        · exact h3 h4
end Go.Proofs.Ytcgbdndkfonphaa.Ai
namespace Go.Proofs.Ytcgbdndkfonphaa.Ai
open Go Go.Ai
set_option maxRecDepth 1000000 in
theorem awake18_says : saysTrue (callB (lookF tb) ovs (lookM mtl) mds 30 18 [] []) = true := by kernel_rfl
theorem awake18_tells : ∃ H', cw 18 [] [] = some (.ret (litB true), H') := by
  obtain ⟨H', h⟩ := saysTrue_some awake18_says
  exact ⟨H', callW_some.2 ⟨30, callB_le 30 _ _ _ _ h⟩⟩
theorem awake18_call (H : List AO) (id : Nat) : callV cw mds 18 [] H id = some (.val (litB true) none) := by
  obtain ⟨H', h⟩ := awake18_tells
  exact callV_pure rfl rfl h rfl
end Go.Proofs.Ytcgbdndkfonphaa.Ai
namespace Go.Proofs.Ytcgbdndkfonphaa.Ai
open Go Go.Ai
variable {call : CallF} {mt : MtF} {md : FuncId → Md}
def smH (O S : AV) (m : Int) (O' S' : AV) (m' : Int) : List AO := [.row [O, S, litI .i64 m] 32, .row [O', S', litI .i64 m'] 32]
theorem sm0_cmp (O S : AV) (m : Int) (O' S' : AV) (m' : Int) (o o' : List Int) (hO : RowA O o) (hO' : RowA O' o') (hl : o.length = o'.length) (hb : o.length ≤ 1000000) : ∀ (j i : Nat), j + i = o.length →
    loopW (codeW cw (lookM mtl) mds c17l0) [2, 3, 5] [(2, .ptr 0 0), (3, .ptr 1 0), (5, litI .i64 i)] (smH O S m O' S' m') =
      some (if o.drop i = o'.drop i then (.exit 0, [(2, .ptr 0 0), (3, .ptr 1 0), (5, litI .i64 o.length), (34, litB false)], smH O S m O' S' m') else (.ret, [(4, litB false)], smH O S m O' S' m'))
  | 0, i, h => by
    have hi : i = o.length := by omega
    subst hi
    rw [List.drop_length, hl, List.drop_length, if_pos rfl]
    have l0 : Ai.load (smH O S m O' S' m') none (.ptr 0 0) = some O := rfl
    refine loopW_out ?_ (by simp)
    rw [← hl]
    simp -implicitDefEqProofs only [c17l0, aW, ↓aP, makes, reduceLT, reduceEqDiff, reduceAdd, fadr_ptr, Nat.zero_add, l0, hO.lenV, Int.lt_irrefl]
  | j + 1, i, h => by
    have hi : i < o.length := by omega
    have hi' : i < o'.length := by omega
    have hg : o[i]? = some o[i] := List.getElem?_eq_getElem hi
    have hg' : o'[i]? = some o'[i] := List.getElem?_eq_getElem hi'
    have hlt : (i : Int) < o.length := by omega
    have l0 : Ai.load (smH O S m O' S' m') none (.ptr 0 0) = some O := rfl
    have k0 : Ai.load (smH O S m O' S' m') none (.ptr 1 0) = some O' := rfl
    have ih := sm0_cmp O S m O' S' m' o o' hO hO' hl hb j (i + 1) (by omega)
    rw [List.drop_eq_getElem_cons hi, List.drop_eq_getElem_cons hi']
    generalize o[i] = a at hg ⊢
    generalize o'[i] = b at hg' ⊢
    have hw := wrap1 (show i < 4611686018427387904 by omega)
    by_cases e : a = b
    · have e' : (a != b) = false := by simp [e]
      have e2 : (a :: o.drop (i + 1) = b :: o'.drop (i + 1)) ↔ o.drop (i + 1) = o'.drop (i + 1) := by rw [e]; exact ⟨fun h => (List.cons.inj h).2, fun h => by rw [h]⟩
      simp only [e2]
      refine loopW_round ?_ ih
      simp -implicitDefEqProofs only [c17l0, aW, ↓aP, makes, reduceLT, reduceEqDiff, reduceAdd, fadr_ptr, Nat.zero_add, l0, k0, hO.lenV, hlt, hO.iadr hg, hO'.iadr hg', load_ip1, e', hw]
    · have e' : (a != b) = true := by simp [e]
      rw [if_neg (fun h => e (List.cons.inj h).1)]
      refine loopW_out ?_ (by simp)
      simp -implicitDefEqProofs only [c17l0, aW, ↓aP, makes, reduceLT, reduceEqDiff, reduceAdd, fadr_ptr, Nat.zero_add, l0, k0, hO.lenV, hlt, hO.iadr hg, hO'.iadr hg', load_ip1, e']
theorem sm1_cmp (O S : AV) (m : Int) (O' S' : AV) (m' : Int) (o o' : List Int) (hO : RowA S o) (hO' : RowA S' o') (hl : o.length = o'.length) (hb : o.length ≤ 1000000) : ∀ (j i : Nat), j + i = o.length →
    loopW (codeW cw (lookM mtl) mds c17l1) [2, 3, 6] [(2, .ptr 0 0), (3, .ptr 1 0), (6, litI .i64 i)] (smH O S m O' S' m') =
      some (if o.drop i = o'.drop i then (.exit 2, [(2, .ptr 0 0), (3, .ptr 1 0), (6, litI .i64 o.length), (52, litB false)], smH O S m O' S' m') else (.ret, [(4, litB false)], smH O S m O' S' m'))
  | 0, i, h => by
    have hi : i = o.length := by omega
    subst hi
    rw [List.drop_length, hl, List.drop_length, if_pos rfl]
    have l0 : Ai.load (smH O S m O' S' m') none (.ptr 0 1) = some S := rfl
    refine loopW_out ?_ (by simp)
    rw [← hl]
    simp -implicitDefEqProofs only [c17l1, aW, ↓aP, makes, reduceLT, reduceEqDiff, reduceAdd, fadr_ptr, Nat.zero_add, l0, hO.lenV, Int.lt_irrefl]
  | j + 1, i, h => by
    have hi : i < o.length := by omega
    have hi' : i < o'.length := by omega
    have hg : o[i]? = some o[i] := List.getElem?_eq_getElem hi
    have hg' : o'[i]? = some o'[i] := List.getElem?_eq_getElem hi'
    have hlt : (i : Int) < o.length := by omega
    have l0 : Ai.load (smH O S m O' S' m') none (.ptr 0 1) = some S := rfl
    have k0 : Ai.load (smH O S m O' S' m') none (.ptr 1 1) = some S' := rfl
    have ih := sm1_cmp O S m O' S' m' o o' hO hO' hl hb j (i + 1) (by omega)
    rw [List.drop_eq_getElem_cons hi, List.drop_eq_getElem_cons hi']
    generalize o[i] = a at hg ⊢
    generalize o'[i] = b at hg' ⊢
    have hw := wrap1 (show i < 4611686018427387904 by omega)
    by_cases e : a = b
    · have e' : (a != b) = false := by simp [e]
      have e2 : (a :: o.drop (i + 1) = b :: o'.drop (i + 1)) ↔ o.drop (i + 1) = o'.drop (i + 1) := by rw [e]; exact ⟨fun h => (List.cons.inj h).2, fun h => by rw [h]⟩
      simp only [e2]
      refine loopW_round ?_ ih
      simp -implicitDefEqProofs only [c17l1, aW, ↓aP, makes, reduceLT, reduceEqDiff, reduceAdd, fadr_ptr, Nat.zero_add, l0, k0, hO.lenV, hlt, hO.iadr hg, hO'.iadr hg', load_ip1, e', hw]
    · have e' : (a != b) = true := by simp [e]
      rw [if_neg (fun h => e (List.cons.inj h).1)]
      refine loopW_out ?_ (by simp)
      simp -implicitDefEqProofs only [c17l1, aW, ↓aP, makes, reduceLT, reduceEqDiff, reduceAdd, fadr_ptr, Nat.zero_add, l0, k0, hO.lenV, hlt, hO.iadr hg, hO'.iadr hg', load_ip1, e']
theorem same_call {O S O' S' : AV} {o s : List Int} (hO : RowA O o) (hS : RowA S s) (hO' : RowA O' o) (hS' : RowA S' s) (h1 : o.length ≤ 1000000) (h2 : s.length ≤ 1000000) (m : Int) (H : List AO) (id : Nat) :
    callV cw mds 17 [planA O S m, planA O' S' m] H id = some (.val (litB true) none) := by
  obtain ⟨e1, x1, c1, q1⟩ := hO.cases
  obtain ⟨e2, x2, c2, q2⟩ := hS.cases
  obtain ⟨e3, x3, c3, q3⟩ := hO'.cases
  obtain ⟨e4, x4, c4, q4⟩ := hS'.cases
  have hw : [planA O S m, planA O' S' m].all wholeA = true := by rw [q1, q2, q3, q4]; rfl
  have hb : ∀ id, boxV id 3 (planA O S m) 32 = some (.val (.ptr id 0) (some (.row [O, S, litI .i64 m] 32))) := fun id => boxV_agg rfl (by simp [hO.cell.1, hS.cell.1]; rfl)
  have hb' : ∀ id, boxV id 3 (planA O' S' m) 32 = some (.val (.ptr id 0) (some (.row [O', S', litI .i64 m] 32))) := fun id => boxV_agg rfl (by simp [hO'.cell.1, hS'.cell.1]; rfl)
  have L0 := sm0_cmp O S m O' S' m o o hO hO' rfl h1 o.length 0 (by omega)
  have L1 := sm1_cmp O S m O' S' m s s hS hS' rfl h2 s.length 0 (by omega)
  rw [if_pos rfl, show ((0 : Nat) : Int) = 0 from rfl, show smH O S m O' S' m = [.row [O, S, litI .i64 m] 32, .row [O', S', litI .i64 m] 32] from rfl] at L0 L1
  have l0 : Ai.load [.row [O, S, litI .i64 m] 32, .row [O', S', litI .i64 m] 32] none (.ptr 0 0) = some O := rfl
  have l1 : Ai.load [.row [O, S, litI .i64 m] 32, .row [O', S', litI .i64 m] 32] none (.ptr 0 1) = some S := rfl
  have l2 : Ai.load [.row [O, S, litI .i64 m] 32, .row [O', S', litI .i64 m] 32] none (.ptr 0 2) = some (litI .i64 m) := rfl
  have k0 : Ai.load [.row [O, S, litI .i64 m] 32, .row [O', S', litI .i64 m] 32] none (.ptr 1 0) = some O' := rfl
  have k1 : Ai.load [.row [O, S, litI .i64 m] 32, .row [O', S', litI .i64 m] 32] none (.ptr 1 1) = some S' := rfl
  have k2 : Ai.load [.row [O, S, litI .i64 m] 32, .row [O', S', litI .i64 m] 32] none (.ptr 1 2) = some (litI .i64 m) := rfl
  have told : cw 17 [planA O S m, planA O' S' m] [] = some (.ret (litB true), [.row [O, S, litI .i64 m] 32, .row [O', S', litI .i64 m] 32]) := by
    refine cw_of fn17 (c := c17) rfl rfl rfl rfl ?_
    simp -implicitDefEqProofs only [c17, aW, ↓aP, makes, reduceLT, reduceEqDiff, reduceAdd, core_box, hb, hb', List.length_nil, List.length_cons, fadr_ptr, Nat.zero_add, l0, l1, l2, k0, k1, k2, hO.lenV, hS.lenV, hO'.lenV, hS'.lenV, bne_self_eq_false, L0, L1]
    rfl
  exact callV_pureA rfl hw told rfl
end Go.Proofs.Ytcgbdndkfonphaa.Ai
namespace Go.Proofs.Ytcgbdndkfonphaa.Ai.Ord
open Go Go.Ai Go.Proofs.Ytcgbdndkfonphaa.Ai
def isNext (g : List (List Int)) (out : List Int) (i : Nat) : Bool := !out.contains (i : Int) && (need g i).all out.contains
def nextC (g : List (List Int)) (out : List Int) : Option Nat := (List.range g.length).find? (isNext g out)
def iterC (g : List (List Int)) : Nat → List Int → List Int
  | 0, out => out
  | m + 1, out => match nextC g out with
    | none => out
    | some i => iterC g m (out ++ [(i : Int)])
theorem isNext_iff {g : List (List Int)} {ws h out : List Int} (K : KI g ws h out) {i : Nat} (hi : i < g.length) : isNext g out i = true ↔ (i : Int) ∈ h := by
  have hz := K.z i hi
  have hw := K.w i hi
  have e : (need g i).all out.contains = true ↔ ws.getD i 0 = 0 := by
    rw [hw]
    constructor
    · intro ha
      rw [List.all_eq_true] at ha
      have : (need g i).filter (fun k => !out.contains k) = [] := by
        rw [List.filter_eq_nil_iff]
        intro k hk
        rw [ha k hk]; simp
      rw [this]; rfl
    · intro hl
      have : (need g i).filter (fun k => !out.contains k) = [] := List.eq_nil_of_length_eq_zero (by omega)
      rw [List.filter_eq_nil_iff] at this
      rw [List.all_eq_true]
      intro k hk
      have := this k hk
      simpa using this
  unfold isNext
  rw [Bool.and_eq_true, e, ← hz, List.mem_append]
  simp only [Bool.not_eq_true', ← Bool.not_eq_true, List.contains_iff_mem]
  constructor
  · rintro ⟨h1, h2 | h2⟩
    · exact h2
    · exact absurd h2 h1
  · intro h1
    refine ⟨fun h2 => ?_, .inl h1⟩
    exact (List.nodup_append.1 K.nd).2.2 _ h1 _ h2 rfl
theorem KI.len_le {g : List (List Int)} {ws h out : List Int} (K : KI g ws h out) : h.length + out.length ≤ g.length := by
  have hm : ((h ++ out).map Int.toNat).Nodup := by
    have hr := K.rng
    have hn := K.nd
    generalize h ++ out = l at hr hn
    induction l with
    | nil => simp
    | cons x l ih =>
      rw [List.nodup_cons] at hn
      rw [List.map_cons, List.nodup_cons]
      refine ⟨fun hm => hn.1 ?_, ih (fun y hy => hr y (List.mem_cons_of_mem _ hy)) hn.2⟩
      obtain ⟨y, hy, e⟩ := List.mem_map.1 hm
      have h1 := hr x (List.mem_cons_self ..)
      have h2 := hr y (List.mem_cons_of_mem _ hy)
      rw [show x = y by omega]; exact hy
  have := nodup_le (m := List.range g.length) hm (fun x hx => by
    obtain ⟨y, hy, rfl⟩ := List.mem_map.1 hx
    have := K.rng y hy
    rw [List.mem_range]; omega)
  simpa using this
theorem kahn_iter {g : List (List Int)} {us : List (List Int)} (hus : ∀ x : Nat, (us.getD x []).Nodup ∧ ∀ i : Int, i ∈ us.getD x [] ↔ ∃ j : Nat, i = j ∧ j < g.length ∧ (x : Int) ∈ need g j) :
    ∀ (m : Nat) (ws h out : List Int), mu ws h ≤ m → KI g ws h out → IsHeap h h.length → kahn us m ws h out = iterC g (g.length - out.length) out
  | 0, ws, h, out, hm, K, H => by
    have : h = [] := List.eq_nil_of_length_eq_zero (by unfold mu at hm; omega)
    subst this
    have hn : nextC g out = none := by
      unfold nextC
      rw [List.find?_eq_none]
      intro i hi
      rw [isNext_iff K (List.mem_range.1 hi)]
      simp
    rw [kahn]
    cases g.length - out.length with
    | zero => rfl
    | succ m => rw [iterC, hn]
  | m + 1, ws, h, out, hm, K, H => by
    rw [kahn]
    by_cases he : h = []
    · subst he
      rw [if_pos rfl]
      have hn : nextC g out = none := by
        unfold nextC
        rw [List.find?_eq_none]
        intro i hi
        rw [isNext_iff K (List.mem_range.1 hi)]
        simp
      cases g.length - out.length with
      | zero => rfl
      | succ m => rw [iterC, hn]
    · rw [if_neg he]
      have hpos : 0 < h.length := List.length_pos_iff.2 he
      have hps := pop_split hpos
      obtain ⟨hX, hH⟩ := popL_heap H hpos
      have hx : (popL h).getD (h.length - 1) 0 ∈ h := hps.mem_iff.1 (List.mem_append_right _ (by simp))
      have hmin : ∀ y ∈ h, (popL h).getD (h.length - 1) 0 ≤ y := by
        intro y hy
        obtain ⟨j, hj⟩ := List.getElem?_of_mem hy
        have hjl := (List.getElem?_eq_some_iff.1 hj).1
        have := heap_min H j hjl
        rw [hX]
        rw [List.getD_eq_getElem?_getD (i := j), hj] at this
        exact this
      generalize (popL h).take (h.length - 1) = h' at *
      generalize (popL h).getD (h.length - 1) 0 = X at *
      have hXr := K.rng X (List.mem_append_left _ hx)
      have hle := K.len_le
      have hnx : nextC g out = some X.toNat := by
        unfold nextC
        rw [List.find?_range_eq_some]
        have hXe : ((X.toNat : Nat) : Int) = X := by omega
        refine ⟨?_, ?_, fun j hj => ?_⟩
        · rw [isNext_iff K (by omega), hXe]; exact hx
        · rw [List.mem_range]; omega
        · rw [Bool.not_eq_true', ← Bool.not_eq_true, isNext_iff K (by omega)]
          intro hjh
          have := hmin _ hjh
          omega
      obtain ⟨u1, u2⟩ := hus X.toNat
      rw [show ((X.toNat : Nat) : Int) = X by omega] at u2
      have hsub : g.length - out.length = (g.length - (out ++ [X]).length) + 1 := by simp; omega
      rw [hsub, iterC, hnx]
      simp only
      rw [show ((X.toNat : Nat) : Int) = X by omega]
      refine kahn_iter hus m _ _ _ ?_ (K.step hps u1 u2) (relax_heap _ _ _ hH)
      have := relax_mu (us.getD X.toNat []) ws h' (fun k hk => by
        obtain ⟨j, rfl, hj, _⟩ := (u2 k).1 hk
        rw [K.lw, Int.toNat_natCast]; exact hj)
      have htl : h'.length + 1 = h.length := by
        have := hps.length_eq
        simpa using this
      unfold mu at this hm ⊢
      omega
theorem build_sorted (g : List (List Int)) : ∀ (m n : Nat) (s : List (List Int) × List Int × List Int), s.2.2.Pairwise (· < ·) → (∀ x ∈ s.2.2, x < (n : Int)) → (build g m n s).2.2.Pairwise (· < ·)
  | 0, n, s, h, _ => h
  | m + 1, n, s, h, hb => by
    rw [build]
    refine build_sorted g m (n + 1) _ ?_ ?_
    · simp only
      split
      · rw [List.pairwise_append]
        refine ⟨h, by simp, fun a ha b hbm => ?_⟩
        simp only [List.mem_cons, List.not_mem_nil, or_false] at hbm
        rw [hbm]; exact hb a ha
      · exact h
    · simp only
      intro x hx
      split at hx
      · rcases List.mem_append.1 hx with hx | hx
        · have := hb x hx; omega
        · simp only [List.mem_cons, List.not_mem_nil, or_false] at hx
          omega
      · have := hb x hx; omega
theorem outL_iter (g : List (List Int)) : outL g = iterC g g.length [] := by
  have B := buildN g
  unfold outL
  rw [kahn_iter B.us _ _ _ _ (Nat.le_refl _) ⟨B.lw, fun x hx => ?_, ?_, fun i hi => ?_, fun i hi => ?_, fun j hj => by simp at hj⟩ (sorted_heap (build_sorted g _ _ _ List.Pairwise.nil (by simp)))]
  · rfl
  · rw [List.append_nil]; exact B.r.1
  · rw [List.append_nil, B.r.2] at hx
    obtain ⟨j, rfl, hj, _⟩ := hx
    omega
  · rw [B.ws i hi, List.filter_eq_self.2 (by simp)]
  · rw [List.append_nil, B.r.2, B.ws i hi]
    constructor
    · rintro ⟨j, e, _, h⟩
      have : i = j := by omega
      subst this; simp [h]
    · intro h; exact ⟨i, rfl, hi, List.eq_nil_of_length_eq_zero (by omega)⟩
theorem kR_iter (g g' : List (List Int)) (hl : g'.length = g.length) (hn : ∀ i k : Nat, i < g.length → k < g.length → (needsP g' i k = true ↔ (k : Int) ∈ need g i)) (hr : ∀ i, ∀ k ∈ need g i, 0 ≤ k ∧ k < (g.length : Int)) :
    ∀ (m : Nat) (done : List Bool) (out : List Int), done.length = g.length → (∀ i : Nat, i < g.length → done.getD i false = out.contains (i : Int)) →
      kR g' m done out = if (iterC g m out).length = out.length + m then some (iterC g m out) else none
  | 0, done, out, hd, he => by rw [kR, iterC, if_pos (Nat.add_zero _).symm]
  | m + 1, done, out, hd, he => by
    have hnx : nextI g' done = nextC g out := by
      unfold nextI nextC
      rw [hl]
      have : ∀ i ∈ List.range g.length, readyP g' done i = isNext g out i := by
        intro i hi
        have hi := List.mem_range.1 hi
        unfold readyP isNext
        rw [he i hi]
        congr 1
        rw [Bool.eq_iff_iff, List.all_eq_true, List.all_eq_true]
        constructor
        · intro h k hk
          have hk0 := hr i k hk
          have := h k.toNat (by rw [List.mem_range, hl]; omega)
          unfold freeP at this
          rw [he _ (by omega), Bool.or_eq_true] at this
          have ek : ((k.toNat : Nat) : Int) = k := by omega
          rcases this with h1 | h1
          · rw [ek] at h1; exact h1
          · rw [Bool.not_eq_true', ← Bool.not_eq_true, hn i k.toNat hi (by omega), ek] at h1
            exact absurd hk h1
        · intro h k hk
          rw [List.mem_range, hl] at hk
          unfold freeP
          rw [he k hk, Bool.or_eq_true]
          by_cases hm : (k : Int) ∈ need g i
          · exact .inl (h _ hm)
          · right
            rw [Bool.not_eq_true', ← Bool.not_eq_true, hn i k hi hk]; exact hm
      have : ∀ (l : List Nat), (∀ i ∈ l, readyP g' done i = isNext g out i) → l.find? (readyP g' done) = l.find? (isNext g out) := by
        intro l
        induction l with
        | nil => intros; rfl
        | cons x l ih =>
          intro h
          rw [List.find?_cons, List.find?_cons, h x (List.mem_cons_self ..), ih fun i hi => h i (List.mem_cons_of_mem _ hi)]
      apply this; assumption
    rw [kR, iterC, hnx]
    cases hx : nextC g out with
    | none =>
      simp only
      rw [if_neg (by omega)]
    | some i =>
      simp only
      have hi : i < g.length := by
        unfold nextC at hx
        exact List.mem_range.1 (List.mem_of_find?_eq_some hx)
      rw [kR_iter g g' hl hn hr m (done.set i true) (out ++ [(i : Int)]) (by simpa using hd) (fun j hj => by
        by_cases e : i = j
        · subst e; rw [List.getD_eq_getElem?_getD, List.getElem?_set_self (by omega)]; simp
        · rw [List.getD_eq_getElem?_getD, List.getElem?_set_ne e, ← List.getD_eq_getElem?_getD, he j hj]
          rw [Bool.eq_iff_iff, List.contains_iff_mem, List.contains_iff_mem, List.mem_append]
          have : ¬ (j : Int) = i := by omega
          simp [this])]
      have : (out ++ [(i : Int)]).length + m = out.length + (m + 1) := by simp; omega
      rw [this]
end Go.Proofs.Ytcgbdndkfonphaa.Ai.Ord
namespace Go.Proofs.Ytcgbdndkfonphaa.Ai
open Go Go.Ai
theorem setN_other (g : Eqn → List Int) (v : Nat) : ∀ (l : List Eqn) (rows : List (List Int)), (∀ q ∈ l, q.var.toNat ≠ v) → (setN g rows l).getD v [] = rows.getD v []
  | [], _, _ => rfl
  | q :: l, rows, h => by
    rw [setN, setN_other g v l _ fun q' hq => h q' (List.mem_cons_of_mem _ hq)]
    rw [List.getD_eq_getElem?_getD, List.getElem?_set_ne (h q (List.mem_cons_self ..)), ← List.getD_eq_getElem?_getD]
theorem setN_get (g : Eqn → List Int) : ∀ (l : List Eqn) (rows : List (List Int)), (∀ q ∈ l, 0 ≤ q.var ∧ q.var < (rows.length : Int)) → (l.map (·.var)).Nodup → ∀ q ∈ l, (setN g rows l).getD q.var.toNat [] = g q
  | [], _, _, _ => by simp
  | q :: l, rows, h, hn => by
    rw [List.map_cons, List.nodup_cons] at hn
    have hq := h q (List.mem_cons_self ..)
    intro q' hq'
    rw [setN]
    rcases List.mem_cons.1 hq' with rfl | hq'
    · rw [setN_other g _ l _ fun x hx e => hn.1 (List.mem_map.2 ⟨x, hx, by have := h x (List.mem_cons_of_mem _ hx); omega⟩)]
      rw [List.getD_eq_getElem?_getD, List.getElem?_set_self (by omega)]; rfl
    · exact setN_get g l _ (fun x hx => by rw [List.length_set]; exact h x (List.mem_cons_of_mem _ hx)) hn.2 q' hq'
theorem NC_get (f : FlatV) (G : GoodF f) (q : Eqn) (hq : q ∈ f.eqs) : (NC f).getD q.var.toNat [] = needC f q := setN_get (needC f) f.eqs _ (fun q hq => by rw [List.length_replicate]; exact G.var q hq) G.nodup q hq
theorem NR_get (f : FlatV) (G : GoodF f) (q : Eqn) (hq : q ∈ f.eqs) : (NR f).getD q.var.toNat [] = needR f q := setN_get (needR f) f.eqs _ (fun q hq => by rw [List.length_replicate]; exact G.var q hq) G.nodup q hq
theorem mem_needC (f : FlatV) (q : Eqn) (x : Int) : x ∈ needC f q ↔ 0 ≤ x ∧ x ∈ needR f q := by
  unfold needC needR
  rw [List.mem_filter, Ord.mem_compI, Ord.mem_sortI]
  simp only [Bool.not_eq_true', decide_eq_false_iff_not, List.mem_append, List.mem_cons, List.not_mem_nil, or_false]
  constructor
  · rintro ⟨(h | h) | h, h0⟩
    · exact ⟨by omega, .inl (.inl h)⟩
    · exact ⟨by omega, .inr h⟩
    · refine ⟨by omega, .inl (.inr ?_)⟩
      rw [if_pos (by omega)]; simp [h]
  · rintro ⟨h0, (h | h) | h⟩
    · exact ⟨.inl (.inl h), by omega⟩
    · split at h
      · simp only [List.mem_cons, List.not_mem_nil, or_false] at h; exact ⟨.inr h, by omega⟩
      · cases h
    · exact ⟨.inl (.inr h), by omega⟩
theorem needsP_NC (f : FlatV) (F : FitsS f) (G : GoodF f) (i k : Nat) (hi : i < f.names.length) (hk : k < f.names.length) : needsP (NR f) i k = true ↔ (k : Int) ∈ (NC f).getD i [] := by
  obtain ⟨q, hq, e⟩ := G.all i hi
  have h1 := NC_get f G q hq
  have h2 := NR_get f G q hq
  rw [e] at h1 h2
  rw [h1, mem_needC]
  unfold needsP
  rw [Int.toNat_natCast, h2, NR_len, decide_eq_true (show (0 : Int) ≤ i by omega), decide_eq_true (show (i : Int) < f.names.length by omega), decide_eq_true (show (0 : Int) ≤ k by omega), decide_eq_true (show (k : Int) < f.names.length by omega)]
  simp only [Bool.true_and, List.contains_iff_mem]
  exact ⟨fun h => ⟨by omega, h⟩, fun h => h.2⟩
theorem need_NC (f : FlatV) (F : FitsS f) (G : GoodF f) (i : Nat) (x : Int) : x ∈ Ord.need (NC f) i ↔ x ∈ (NC f).getD i [] := by
  cases hg : (NC f)[i]? with
  | none =>
    unfold Ord.need
    rw [hg, List.getD_eq_getElem?_getD, hg]; rfl
  | some row =>
    rw [Ord.mem_need hg, List.getD_eq_getElem?_getD, hg]
    simp only [Option.getD_some]
    constructor
    · exact fun h => h.1
    · intro h
      have := NC_rng f F G row (List.mem_of_getElem? hg) x h
      rw [NC_len]; exact ⟨h, this⟩
theorem ordRef_eq (f : FlatV) (F : FitsS f) (G : GoodF f) : ordRef (NR f) = if Ord.okL (NC f) = true then some (ordL (NC f)) else none := by
  unfold ordRef
  have h := Ord.kR_iter (NC f) (NR f) (by rw [NC_len, NR_len]) (fun i k hi hk => by
    rw [NC_len] at hi hk
    rw [needsP_NC f F G i k hi hk, need_NC f F G]) (fun i k hk => by
    rw [need_NC f F G] at hk
    have : (NC f).getD i [] ∈ NC f ∨ (NC f).getD i [] = [] := by
      rw [List.getD_eq_getElem?_getD]
      cases hg : (NC f)[i]? with
      | none => exact .inr rfl
      | some row => exact .inl (List.mem_of_getElem? hg)
    rcases this with h | h
    · rw [NC_len]; exact NC_rng f F G _ h k hk
    · rw [h] at hk; cases hk) (NC f).length (List.replicate (NC f).length false) [] (by simp) (fun i hi => by
    rw [List.getD_eq_getElem?_getD, List.getElem?_replicate, if_pos hi]; rfl)
  rw [← Ord.outL_iter] at h
  rw [show (NR f).length = (NC f).length by rw [NC_len, NR_len], h]
  have hle : (Ord.outL (NC f)).length ≤ (NC f).length := by
    obtain ⟨ws, K⟩ := Ord.outL_ok (NC f)
    have := K.len_le
    simpa using this
  by_cases hk : Ord.okL (NC f) = true
  · rw [if_pos hk]
    have hk' := hk
    simp only [Ord.okL, decide_eq_true_eq] at hk'
    rw [if_pos (by simp; omega), ordL, if_pos hk]
  · rw [if_neg hk]
    simp only [Ord.okL, decide_eq_true_eq] at hk
    rw [if_neg (by simp; omega)]
theorem nodup_inj {l : List Int} (h : l.Nodup) {i j : Nat} {x : Int} (hi : l[i]? = some x) (hj : l[j]? = some x) : i = j := by
  obtain ⟨h1, e1⟩ := List.getElem?_eq_some_iff.1 hi
  obtain ⟨h2, e2⟩ := List.getElem?_eq_some_iff.1 hj
  rw [List.Nodup, List.pairwise_iff_getElem] at h
  rcases Nat.lt_trichotomy i j with hlt | heq | hgt
  · exact absurd (e1.trans e2.symm) (h i j h1 h2 hlt)
  · exact heq
  · exact absurd (e2.trans e1.symm) (h j i h2 h1 hgt)
structure PermO (n : Nat) (ord : List Int) : Prop where
  len : ord.length = n
  rng : ∀ x ∈ ord, 0 ≤ x ∧ x < (n : Int)
  nd : ord.Nodup
def posO (ord : List Int) (v : Nat) : Nat := (placeI ord v).toNat
theorem PermO.all {n : Nat} {ord : List Int} (P : PermO n ord) (v : Nat) (hv : v < n) : (v : Int) ∈ ord := by
  have hm : (ord.map Int.toNat).Nodup := by
    have hr := P.rng
    have hn := P.nd
    clear P
    induction ord with
    | nil => simp
    | cons x l ih =>
      rw [List.nodup_cons] at hn
      rw [List.map_cons, List.nodup_cons]
      refine ⟨fun hm => hn.1 ?_, ih (fun y hy => hr y (List.mem_cons_of_mem _ hy)) hn.2⟩
      obtain ⟨y, hy, e⟩ := List.mem_map.1 hm
      have h1 := hr x (List.mem_cons_self ..)
      have h2 := hr y (List.mem_cons_of_mem _ hy)
      rw [show x = y by omega]; exact hy
  have := nodup_all hm (by rw [List.length_map, P.len]) (fun x hx => by
    obtain ⟨y, hy, rfl⟩ := List.mem_map.1 hx
    have := P.rng y hy; omega) v hv
  obtain ⟨y, hy, e⟩ := List.mem_map.1 this
  have := P.rng y hy
  rw [show (v : Int) = y by omega]; exact hy
theorem PermO.pos {n : Nat} {ord : List Int} (P : PermO n ord) (v : Nat) (hv : v < n) : placeI ord v = (posO ord v : Int) ∧ ord[posO ord v]? = some (v : Int) := by
  rcases placeF_spec v ord 0 with ⟨_, h2⟩ | ⟨j, h1, h2, _⟩
  · exact absurd (P.all v hv) h2
  · have e : placeI ord v = (j : Int) := by unfold placeI; rw [h1]; congr 1; omega
    unfold posO
    rw [e]
    exact ⟨rfl, h2⟩
theorem PermO.at_ {n : Nat} {ord : List Int} (P : PermO n ord) {i : Nat} {v : Nat} (h : ord[i]? = some (v : Int)) : posO ord v = i := by
  have hv : v < n := by have := P.rng _ (List.mem_of_getElem? h); omega
  have h2 := (P.pos v hv).2
  exact nodup_inj P.nd h2 h
theorem PermO.lt {n : Nat} {ord : List Int} (P : PermO n ord) {v : Nat} (hv : v < n) : posO ord v < n := by
  have := (List.getElem?_eq_some_iff.1 (P.pos v hv).2).1
  rw [P.len] at this; exact this
theorem PermO.inj {n : Nat} {ord : List Int} (P : PermO n ord) {u v : Nat} (hu : u < n) (hv : v < n) (h : posO ord u = posO ord v) : u = v := by
  have h1 := (P.pos u hu).2
  have h2 := (P.pos v hv).2
  rw [h, h2] at h1
  simp only [sI] at h1
  omega
theorem setAll_get : ∀ (l r : List Int) (i : Nat) (v : Nat), l.Nodup → (∀ x ∈ l, 0 ≤ x ∧ x < (r.length : Int)) → (∀ j, l[j]? = some (v : Int) → (setAll r i l).getD v 0 = (i + j : Nat)) ∧ (¬ (v : Int) ∈ l → (setAll r i l).getD v 0 = r.getD v 0)
  | [], r, i, v, _, _ => ⟨fun j h => (by cases h), fun _ => rfl⟩
  | x :: l, r, i, v, hn, hr => by
    rw [List.nodup_cons] at hn
    have hx := hr x (List.mem_cons_self ..)
    obtain ⟨h1, h2⟩ := setAll_get l (r.set x.toNat i) (i + 1) v hn.2 (fun y hy => by rw [List.length_set]; exact hr y (List.mem_cons_of_mem _ hy))
    rw [setAll]
    refine ⟨fun j hj => ?_, fun hm => ?_⟩
    · cases j with
      | zero =>
        simp only [List.getElem?_cons_zero, sI] at hj
        rw [h2 (by rw [← hj]; exact hn.1), hj, Int.toNat_natCast, List.getD_eq_getElem?_getD, List.getElem?_set_self (by omega)]; rfl
      | succ j =>
        simp only [List.getElem?_cons_succ] at hj
        rw [h1 j hj]; congr 1; omega
    · rw [List.mem_cons] at hm
      rw [h2 fun h => hm (.inr h), List.getD_eq_getElem?_getD, List.getElem?_set_ne (by omega), ← List.getD_eq_getElem?_getD]
theorem firstF_get {n : Nat} {ord : List Int} (P : PermO n ord) (v : Nat) (hv : v < n) : (firstF ord).getD v 0 = (posO ord v : Int) := by
  unfold firstF
  have := (setAll_get ord (List.replicate ord.length 0) 0 v P.nd (fun x hx => by rw [List.length_replicate, P.len]; exact P.rng x hx)).1 _ (P.pos v hv).2
  rw [this]; congr 1; omega
end Go.Proofs.Ytcgbdndkfonphaa.Ai
namespace Go.Proofs.Ytcgbdndkfonphaa.Ai
open Go Go.Ai
theorem getD_set' (l : List Int) (i a : Nat) (x : Int) (hi : i < l.length) : (l.set i x).getD a 0 = if i = a then x else l.getD a 0 := by
  rw [Ord.getD_set]
  by_cases h : i = a
  · rw [if_pos ⟨h, hi⟩, if_pos h]
  · rw [if_neg (fun h2 => h h2.1), if_neg h]
theorem maxK_le (fv : Int) (k : Nat) (z : Int) : ∀ (row last : List Int), (∀ x ∈ row, 0 ≤ x ∧ x < (last.length : Int)) → ((maxK fv last row).getD k 0 ≤ z ↔ last.getD k 0 ≤ z ∧ ((k : Int) ∈ row → fv ≤ z))
  | [], last, _ => by simp [maxK]
  | x :: row, last, h => by
    have hx := h x (List.mem_cons_self ..)
    rw [maxK, maxK_le fv k z row _ (fun y hy => by rw [List.length_set]; exact h y (List.mem_cons_of_mem _ hy)), getD_set' _ _ _ _ (by omega), List.mem_cons]
    by_cases e : x.toNat = k
    · have e' : (k : Int) = x := by omega
      rw [if_pos e, e]
      constructor
      · rintro ⟨h1, h2⟩; exact ⟨by omega, fun _ => by omega⟩
      · rintro ⟨h1, h2⟩; exact ⟨by have := h2 (.inl e'); omega, fun _ => h2 (.inl e')⟩
    · have e' : ¬ (k : Int) = x := by omega
      rw [if_neg e]
      constructor
      · rintro ⟨h1, h2⟩; exact ⟨h1, fun h => h2 (h.resolve_left e')⟩
      · rintro ⟨h1, h2⟩; exact ⟨h1, fun h => h2 (.inr h)⟩
theorem maxV_le (first : List Int) (k : Nat) (z : Int) : ∀ (g : List (List Int)) (v : Nat) (last : List Int), (∀ r ∈ g, ∀ x ∈ r, 0 ≤ x ∧ x < (last.length : Int)) →
    ((maxV first v last g).getD k 0 ≤ z ↔ last.getD k 0 ≤ z ∧ ∀ j, (k : Int) ∈ g.getD j [] → first.getD (v + j) 0 ≤ z)
  | [], v, last, _ => by simp [maxV]
  | row :: g, v, last, h => by
    rw [maxV, maxV_le first k z g (v + 1) _ (fun r hr x hx => by rw [maxK_len]; exact h r (List.mem_cons_of_mem _ hr) x hx), maxK_le _ _ _ _ _ (h row (List.mem_cons_self ..))]
    constructor
    · rintro ⟨⟨h1, h2⟩, h3⟩
      refine ⟨h1, fun j hj => ?_⟩
      cases j with
      | zero => exact h2 hj
      | succ j =>
        have := h3 j hj
        rw [show v + (j + 1) = v + 1 + j by omega]; exact this
    · rintro ⟨h1, h2⟩
      refine ⟨⟨h1, fun hm => h2 0 hm⟩, fun j hj => ?_⟩
      have := h2 (j + 1) hj
      rw [show v + 1 + j = v + (j + 1) by omega]; exact this
theorem endK_get (n : Int) (k : Nat) : ∀ (l last : List Int), (∀ x ∈ l, 0 ≤ x ∧ x < (last.length : Int)) → (endK n last l).getD k 0 = if (k : Int) ∈ l then n else last.getD k 0
  | [], last, _ => by simp [endK]
  | x :: l, last, h => by
    have hx := h x (List.mem_cons_self ..)
    rw [endK, endK_get n k l _ (fun y hy => by rw [List.length_set]; exact h y (List.mem_cons_of_mem _ hy)), getD_set' _ _ _ _ (by omega)]
    by_cases e : x.toNat = k
    · have e' : (k : Int) = x := by omega
      rw [if_pos e, if_pos (show (k : Int) ∈ x :: l from List.mem_cons.2 (.inl e'))]
      split <;> rfl
    · have e' : ¬ (k : Int) = x := by omega
      rw [if_neg e]
      simp only [List.mem_cons, e', false_or]
theorem maxR_le (g : List (List Int)) (v z : Int) : ∀ (l : List Int) (i : Nat) (acc : Int), (maxR g v i l acc ≤ z ↔ acc ≤ z ∧ ∀ (j : Nat) (o : Int), l[j]? = some o → needsP g o v = true → ((i + j : Nat) : Int) ≤ z)
  | [], i, acc => by simp [maxR]
  | x :: l, i, acc => by
    rw [maxR, maxR_le g v z l (i + 1)]
    by_cases hp : needsP g x v = true
    · rw [if_pos hp]
      constructor
      · rintro ⟨h1, h2⟩
        refine ⟨by omega, fun j o hj hn => ?_⟩
        cases j with
        | zero => omega
        | succ j =>
          simp only [List.getElem?_cons_succ] at hj
          have := h2 j o hj hn
          rw [show i + (j + 1) = i + 1 + j by omega]; exact this
      · rintro ⟨h1, h2⟩
        have h0 := h2 0 x rfl hp
        refine ⟨by simp at h0; omega, fun j o hj hn => ?_⟩
        have := h2 (j + 1) o (by simpa using hj) hn
        rw [show i + 1 + j = i + (j + 1) by omega]; exact this
    · rw [if_neg hp]
      constructor
      · rintro ⟨h1, h2⟩
        refine ⟨h1, fun j o hj hn => ?_⟩
        cases j with
        | zero => simp only [List.getElem?_cons_zero, sI] at hj; subst hj; exact absurd hn hp
        | succ j =>
          simp only [List.getElem?_cons_succ] at hj
          have := h2 j o hj hn
          rw [show i + (j + 1) = i + 1 + j by omega]; exact this
      · rintro ⟨h1, h2⟩
        refine ⟨h1, fun j o hj hn => ?_⟩
        have := h2 (j + 1) o (by simpa using hj) hn
        rw [show i + 1 + j = i + (j + 1) by omega]; exact this
theorem endB_get (k : Nat) : ∀ (l : List Int) (bs_ : List Bool), k < bs_.length → (∀ x ∈ l, x < (bs_.length : Int)) → ((endB bs_ l).getD k false = true ↔ bs_.getD k false = true ∨ (k : Int) ∈ l)
  | [], bs_, _, _ => by simp [endB]
  | x :: l, bs_, hk, h => by
    have hx := h x (List.mem_cons_self ..)
    rw [endB]
    by_cases h0 : 0 ≤ x
    · rw [if_pos h0, endB_get k l _ (by simpa using hk) (fun y hy => by rw [List.length_set]; exact h y (List.mem_cons_of_mem _ hy)), List.mem_cons]
      by_cases e : x.toNat = k
      · have e' : (k : Int) = x := by omega
        have : (bs_.set x.toNat true).getD k false = true := by
          rw [e, List.getD_eq_getElem?_getD, List.getElem?_set_self hk]; rfl
        rw [this]; exact ⟨fun _ => .inr (.inl e'), fun _ => .inl rfl⟩
      · have e' : ¬ (k : Int) = x := by omega
        have : (bs_.set x.toNat true).getD k false = bs_.getD k false := by
          rw [List.getD_eq_getElem?_getD, List.getElem?_set_ne e, ← List.getD_eq_getElem?_getD]
        rw [this]; simp [e']
    · rw [if_neg h0, endB_get k l _ hk (fun y hy => h y (List.mem_cons_of_mem _ hy)), List.mem_cons]
      have e' : ¬ (k : Int) = x := by omega
      simp [e']
theorem le_all {a b : Int} (h : ∀ z, a ≤ z ↔ b ≤ z) : a = b := by
  have h1 := (h b).2 (Int.le_refl _)
  have h2 := (h a).1 (Int.le_refl _)
  omega
section
variable (f : FlatV) (F : FitsS f) (G : GoodF f) {ord : List Int} (P : PermO f.names.length ord)
include F G P
theorem endF_iff (k : Nat) (hk : k < f.names.length) : (endF f).getD k false = true ↔ (k : Int) ∈ behF f := by
  unfold endF behF
  rw [endB_get k _ _ (by simpa using hk) (fun x hx => by rw [List.length_replicate]; exact endL_rng f G x hx), List.mem_filter]
  have : (List.replicate f.names.length false).getD k false = false := by
    rw [List.getD_eq_getElem?_getD, List.getElem?_replicate]; split <;> rfl
  rw [this]
  have hneg : ¬ ((k : Int) < 0) := by omega
  simp [hneg]
theorem lastF_get (k : Nat) (hk : k < f.names.length) : (lastF f ord).getD k 0 = lastR f ord k := by
  unfold lastF
  have hfl : (firstF ord).length = f.names.length := by rw [firstF_len, P.len]
  rw [endK_get _ k _ _ (fun x hx => by rw [maxV_len, hfl]; exact behF_rng f G x hx)]
  unfold lastR
  by_cases he : (k : Int) ∈ behF f
  · rw [if_pos he, if_pos ((endF_iff f F G P k hk).2 he)]
  · rw [if_neg he, if_neg (fun h => he ((endF_iff f F G P k hk).1 h))]
    refine le_all fun z => ?_
    rw [maxV_le _ k z _ _ _ (fun r hr x hx => by rw [hfl]; exact NC_rng f F G r hr x hx), maxR_le, firstF_get P k hk, (P.pos k hk).1]
    refine and_congr Iff.rfl ?_
    constructor
    · intro h j o hj hn
      have hoR := P.rng o (List.mem_of_getElem? hj)
      have hoe : ((o.toNat : Nat) : Int) = o := by omega
      rw [← hoe] at hn hj
      have hm := (needsP_NC f F G o.toNat k (by omega) hk).1 hn
      have := h o.toNat hm
      rw [Nat.zero_add, firstF_get P _ (by omega), P.at_ hj] at this
      rw [Nat.zero_add]; exact this
    · intro h v hv
      have hvl : v < f.names.length := by
        apply Classical.byContradiction
        intro hc
        rw [List.getD_eq_getElem?_getD, List.getElem?_eq_none (by rw [NC_len]; omega)] at hv
        cases hv
      have hn := (needsP_NC f F G v k hvl hk).2 hv
      have := h (posO ord v) v (P.pos v hvl).2 hn
      rw [Nat.zero_add] at this
      rw [Nat.zero_add, firstF_get P _ hvl]; exact this
theorem lastF_eq : lastF f ord = lastsR f ord := by
  apply List.ext_getElem
  · rw [lastF_len, P.len]; simp [lastsR]
  · intro k h1 h2
    have hk : k < f.names.length := by simpa [lastsR] using h2
    have := lastF_get f F G P k hk
    rw [List.getD_eq_getElem?_getD, List.getElem?_eq_getElem h1] at this
    simp only [Option.getD_some] at this
    rw [this]
    simp [lastsR]
theorem lastR_ge (k : Nat) (hk : k < f.names.length) : (posO ord k : Int) ≤ lastR f ord k := by
  unfold lastR
  have hp := P.lt hk
  split
  · rw [P.len]; omega
  · have := (maxR_le (NR f) k _ ord 0 (placeI ord k)).1 (Int.le_refl _)
    rw [(P.pos k hk).1] at this ⊢
    exact this.1
end
end Go.Proofs.Ytcgbdndkfonphaa.Ai
namespace Go.Proofs.Ytcgbdndkfonphaa.Ai
open Go Go.Ai
structure OrdOk (f : FlatV) (ord : List Int) : Prop where
  p : PermO f.names.length ord
  b : ∀ v k : Nat, v < f.names.length → k < f.names.length → (k : Int) ∈ (NC f).getD v [] → posO ord k < posO ord v
section
variable (f : FlatV) (F : FitsS f) (G : GoodF f)
include F G
def sAt (ord slots : List Int) (k : Nat) : Int := slots.getD (ord.getD k 0).toNat 0
def lAt (ord last : List Int) (k : Nat) : Int := last.getD (ord.getD k 0).toNat 0
end
end Go.Proofs.Ytcgbdndkfonphaa.Ai
namespace Go.Proofs.Ytcgbdndkfonphaa.Ai
open Go Go.Ai
def Greedy (ord slots last : List Int) (i : Nat) : Prop := ∀ j, j < i → (∀ k, k < j → sAt ord slots k = sAt ord slots j → lAt ord last k < (j : Int)) ∧ 0 ≤ sAt ord slots j ∧ ∀ s : Nat, (s : Int) < sAt ord slots j → ∃ k, k < j ∧ sAt ord slots k = s ∧ (j : Int) ≤ lAt ord last k
section
variable {n : Nat} {ord last : List Int} (P : PermO n ord) (hll : last.length = n)
include P hll
theorem sAt_set {slots : List Int} (hs : slots.length = n) {i : Nat} (hi : i < n) (x : Int) {k : Nat} (hk : k < n) : sAt ord (slots.set (ord.getD i 0).toNat x) k = if k = i then x else sAt ord slots k := by
  unfold sAt
  have gi : ord[i]? = some (ord.getD i 0) := Ord.getI (by rw [P.len]; exact hi)
  have gk : ord[k]? = some (ord.getD k 0) := Ord.getI (by rw [P.len]; exact hk)
  have ri := P.rng _ (List.mem_of_getElem? gi)
  have rk := P.rng _ (List.mem_of_getElem? gk)
  rw [getD_set' _ _ _ _ (by omega)]
  by_cases e : k = i
  · subst e; simp
  · rw [if_neg e, if_neg]
    intro h
    have : ord.getD i 0 = ord.getD k 0 := by omega
    rw [← this] at gk
    exact e (nodup_inj P.nd gk gi)
theorem greedy_unique {slots slots' : List Int} (hs : slots.length = n) (hs' : slots'.length = n) (A : Greedy ord slots last n) (B : Greedy ord slots' last n) : slots = slots' := by
  have key : ∀ i, i < n → sAt ord slots i = sAt ord slots' i := by
    intro i
    induction i using Nat.strongRecOn with
    | _ i ih =>
      intro hi
      obtain ⟨a1, a2, a3⟩ := A i hi
      obtain ⟨b1, b2, b3⟩ := B i hi
      rcases Int.lt_trichotomy (sAt ord slots i) (sAt ord slots' i) with h | h | h
      · exfalso
        obtain ⟨k, hk, e, hl⟩ := b3 (sAt ord slots i).toNat (by omega)
        have := a1 k hk (by rw [ih k hk (by omega), e]; omega)
        omega
      · exact h
      · exfalso
        obtain ⟨k, hk, e, hl⟩ := a3 (sAt ord slots' i).toNat (by omega)
        have := b1 k hk (by rw [← ih k hk (by omega), e]; omega)
        omega
  apply List.ext_getElem (hs.trans hs'.symm)
  intro v h1 h2
  have hv : v < n := by omega
  have := key (posO ord v) (P.lt hv)
  unfold sAt at this
  have hp := (P.pos v hv).2
  have : slots.getD v 0 = slots'.getD v 0 := by
    have e : (ord.getD (posO ord v) 0).toNat = v := by rw [List.getD_eq_getElem?_getD, hp]; simp
    rw [e] at this; exact this
  rw [List.getD_eq_getElem?_getD, List.getD_eq_getElem?_getD, List.getElem?_eq_getElem h1, List.getElem?_eq_getElem h2] at this
  simpa using this
theorem greedy_step {slots : List Int} (hs : slots.length = n) {i : Nat} (hi : i < n) (A : Greedy ord slots last i) {s : Nat} (h1 : ∀ k, k < i → sAt ord slots k = s → lAt ord last k < (i : Int)) (h2 : ∀ t : Nat, t < s → ∃ k, k < i ∧ sAt ord slots k = t ∧ (i : Int) ≤ lAt ord last k) :
    Greedy ord (slots.set (ord.getD i 0).toNat s) last (i + 1) := by
  have e : ∀ k, k < n → sAt ord (slots.set (ord.getD i 0).toNat s) k = if k = i then (s : Int) else sAt ord slots k := fun k hk => sAt_set P hll hs hi s hk
  intro j hj
  by_cases eji : j = i
  · subst eji
    rw [e j hi, if_pos rfl]
    refine ⟨fun k hk hse => ?_, by omega, fun t ht => ?_⟩
    · rw [e k (by omega), if_neg (by omega)] at hse
      exact h1 k hk hse
    · obtain ⟨k, hk, k1, k2⟩ := h2 t (by omega)
      exact ⟨k, hk, by rw [e k (by omega), if_neg (by omega)]; exact k1, k2⟩
  · obtain ⟨a1, a2, a3⟩ := A j (by omega)
    rw [e j (by omega), if_neg eji]
    refine ⟨fun k hk hse => ?_, a2, fun t ht => ?_⟩
    · rw [e k (by omega), if_neg (by omega)] at hse
      exact a1 k hk hse
    · obtain ⟨k, hk, k1, k2⟩ := a3 t ht
      exact ⟨k, hk, by rw [e k (by omega), if_neg (by omega)]; exact k1, k2⟩
structure UOk (slots u : List Int) (i : Nat) : Prop where
  b : ∀ k, k < i → 0 ≤ sAt ord slots k ∧ sAt ord slots k < (u.length : Int)
  u : ∀ s : Nat, s < u.length → ∃ k, k < i ∧ sAt ord slots k = s ∧ lAt ord last k = u.getD s 0 ∧ ∀ k', k < k' → k' < i → sAt ord slots k' ≠ s
theorem uok_free {slots u : List Int} {i : Nat} (hi : i ≤ n) (A : Greedy ord slots last i) (U : UOk (ord := ord) (last := last) slots u i) {s : Nat} (hs : s < u.length) : u.getD s 0 < (i : Int) ↔ ∀ k, k < i → sAt ord slots k = s → lAt ord last k < (i : Int) := by
  obtain ⟨k, hk, k1, k2, k3⟩ := U.u s hs
  rw [← k2]
  constructor
  · intro h k' hk' e
    by_cases e1 : k' = k
    · subst e1; exact h
    · by_cases hlt : k < k'
      · exact absurd e (k3 k' hlt hk')
      · have := (A k hk).1 k' (by omega) (e.trans k1.symm)
        omega
  · intro h; exact h k hk k1
theorem plF_greedy : ∀ (j i : Nat) (slots u : List Int), j + i = n → slots.length = n → Greedy ord slots last i → UOk (ord := ord) (last := last) slots u i → (∀ k, k < n → (k : Int) ≤ lAt ord last k) →
    Greedy ord (plF last i (ord.drop i) (u, slots)).2 last n ∧ UOk (ord := ord) (last := last) (plF last i (ord.drop i) (u, slots)).2 (plF last i (ord.drop i) (u, slots)).1 n
  | 0, i, slots, u, h, hs, A, U, hL => by
    have hi : i = n := by omega
    subst hi
    rw [← P.len, List.drop_length, plF, P.len]
    exact ⟨A, U⟩
  | j + 1, i, slots, u, h, hs, A, U, hL => by
    have hi : i < n := by omega
    have hio : i < ord.length := by rw [P.len]; exact hi
    have hg : ord[i] = ord.getD i 0 := by rw [List.getD_eq_getElem?_getD, List.getElem?_eq_getElem hio]; rfl
    rw [List.drop_eq_getElem_cons hio, plF, hg]
    have gi : ord[i]? = some (ord.getD i 0) := Ord.getI hio
    have ri := P.rng _ (List.mem_of_getElem? gi)
    have free := fun s hs' => uok_free P hll (by omega : i ≤ n) A U (s := s) hs'
    have e : ∀ (x : Int) k, k < n → sAt ord (slots.set (ord.getD i 0).toNat x) k = if k = i then x else sAt ord slots k := fun x k hk => sAt_set P hll hs hi x hk
    refine plF_greedy j (i + 1) _ _ (by omega) (by simpa using hs) ?_ ?_ hL
    · refine greedy_step P hll hs hi A ?_ ?_
      · rcases findF_del (fun x => decide (x < (i : Int))) u 0 with ⟨h1, _⟩ | ⟨t, h1, h2, h3⟩
        · have : slotOf i u = u.length := by unfold slotOf; rw [h1]; rfl
          rw [this]
          intro k hk hse
          have := U.b k hk
          omega
        · rw [Nat.zero_add] at h1
          have hst : slotOf i u = t := by unfold slotOf; rw [h1, if_neg (by omega)]; rfl
          rw [hst]
          refine (free t h2).1 ?_
          have hmem : ¬ (u.getD t 0) ∈ (u.take (t + 1)).filter (fun x => !decide (x < (i : Int))) ∨ u.getD t 0 < (i : Int) := by
            by_cases hlt : u.getD t 0 < (i : Int)
            · exact .inr hlt
            · left
              intro hm
              have hl : ((u.take (t + 1)).filter fun x => !decide (x < (i : Int))).length = (u.take t).length := by rw [h3]
              have htk : u.take (t + 1) = u.take t ++ [u.getD t 0] := by
                rw [List.take_add_one, List.getD_eq_getElem?_getD, List.getElem?_eq_getElem h2]; rfl
              rw [htk, List.filter_append, List.length_append] at hl
              have hall : (u.take t).filter (fun x => !decide (x < (i : Int))) = u.take t := by
                rw [List.filter_eq_self]
                intro y hy
                have : y ∈ (u.take (t + 1)).filter (fun x => !decide (x < (i : Int))) := by rw [h3]; exact hy
                exact (List.mem_filter.1 this).2
              rw [hall] at hl
              simp [hlt] at hl
              exact hlt (by rw [List.getD_eq_getElem?_getD]; exact hl)
          rcases hmem with hm | hm
          · apply Classical.byContradiction
            intro hlt
            refine hm ?_
            rw [List.mem_filter]
            refine ⟨?_, by simpa using hlt⟩
            rw [List.getD_eq_getElem?_getD, List.getElem?_eq_getElem h2]
            refine List.mem_of_getElem? (i := t) ?_
            rw [List.getElem?_take, if_pos (by omega), List.getElem?_eq_getElem h2]; rfl
          · exact hm
      · intro t ht
        have hb : ∀ t, t < slotOf i u → t < u.length ∧ ¬ u.getD t 0 < (i : Int) := by
          intro t ht
          rcases findF_del (fun x => decide (x < (i : Int))) u 0 with ⟨h1, h2⟩ | ⟨w, h1, h2, h3⟩
          · have hsl : slotOf i u = u.length := by unfold slotOf; rw [h1]; rfl
            rw [hsl] at ht
            refine ⟨ht, ?_⟩
            rw [List.filter_eq_self] at h2
            have := h2 (u.getD t 0) (by rw [List.getD_eq_getElem?_getD, List.getElem?_eq_getElem ht]; exact List.getElem_mem _)
            simpa using this
          · rw [Nat.zero_add] at h1
            have hsl : slotOf i u = w := by unfold slotOf; rw [h1, if_neg (by omega)]; rfl
            rw [hsl] at ht
            refine ⟨by omega, ?_⟩
            have hy : u.getD t 0 ∈ u.take w := by
              rw [List.getD_eq_getElem?_getD, List.getElem?_eq_getElem (show t < u.length by omega)]
              refine List.mem_of_getElem? (i := t) ?_
              rw [List.getElem?_take, if_pos ht, List.getElem?_eq_getElem (show t < u.length by omega)]; rfl
            rw [← h3] at hy
            have := (List.mem_filter.1 hy).2
            simpa using this
        obtain ⟨h1, h2⟩ := hb t ht
        rw [free t h1] at h2
        apply Classical.byContradiction
        intro hne
        refine h2 fun k hk hse => ?_
        apply Classical.byContradiction
        intro hc
        exact hne ⟨k, hk, hse, by omega⟩
    · -- what is known then
      have hsu : slotOf i u ≤ u.length := (slotOf_lt i u).1
      have hul : (stepU last i (ord.getD i 0).toNat u).length = max u.length (slotOf i u + 1) := by
        have := (slotOf_lt i u).2
        unfold stepU at this ⊢
        rw [List.length_set] at this ⊢
        exact this
      have hug : ∀ s : Nat, s < (stepU last i (ord.getD i 0).toNat u).length → (stepU last i (ord.getD i 0).toNat u).getD s 0 = if s = slotOf i u then lAt ord last i else u.getD s 0 := by
        intro s hs'
        rw [hul] at hs'
        unfold stepU
        rw [Ord.getD_set]
        by_cases e1 : slotOf i u = s
        · rw [if_pos e1.symm, if_pos]
          · rfl
          · refine ⟨e1, ?_⟩
            split
            · simp; omega
            · rename_i hf
              unfold slotOf
              rw [if_neg hf]
              rcases findF_lt (fun x => decide (x < (i : Int))) u 0 with h | ⟨w, h1, h2⟩
              · exact absurd h hf
              · rw [h1]; omega
        · rw [if_neg (fun h : slotOf i u = s ∧ _ => e1 h.1), if_neg (show ¬ s = slotOf i u from fun h => e1 h.symm)]
          split
          · rename_i hf
            have : slotOf i u = u.length := by unfold slotOf; rw [if_pos hf]
            rw [List.getD_eq_getElem?_getD, List.getElem?_append_left (by omega), ← List.getD_eq_getElem?_getD]
          · rfl
      refine ⟨fun k hk => ?_, fun s hs' => ?_⟩
      · rw [e _ k (by omega), hul]
        by_cases ek : k = i
        · rw [if_pos ek]; simp only; omega
        · rw [if_neg ek]
          have := U.b k (by omega)
          omega
      · rw [hug s hs']
        rw [hul] at hs'
        by_cases es : s = slotOf i u
        · rw [if_pos es]
          refine ⟨i, by omega, by rw [e _ i hi, if_pos rfl]; simp only [es], rfl, fun k' h1 h2 => by omega⟩
        · rw [if_neg es]
          obtain ⟨k, hk, k1, k2, k3⟩ := U.u s (by omega)
          refine ⟨k, by omega, by rw [e _ k (by omega), if_neg (by omega)]; exact k1, k2, fun k' h1 h2 => ?_⟩
          rw [e _ k' (by omega)]
          by_cases ek : k' = i
          · rw [if_pos ek]; exact fun h => es (by simp only at h; omega)
          · rw [if_neg ek]; exact k3 k' h1 (by omega)
structure MOk (slots : List Int) (m : Int) (i : Nat) : Prop where
  b : ∀ k, k < i → 0 ≤ sAt ord slots k ∧ sAt ord slots k < m
  u : m = 0 ∨ ∃ k, k < i ∧ sAt ord slots k + 1 = m
theorem takenL_iff (slots : List Int) (i : Nat) (hi : i ≤ n) (s : Int) : takenL last slots i s (ord.take i) = true ↔ ∃ k, k < i ∧ sAt ord slots k = s ∧ (i : Int) ≤ lAt ord last k := by
  unfold takenL
  rw [List.any_eq_true]
  constructor
  · rintro ⟨v, hv, h⟩
    obtain ⟨k, hk⟩ := List.getElem?_of_mem hv
    rw [List.getElem?_take] at hk
    split at hk
    · rename_i hlt
      rw [Bool.and_eq_true, beq_iff_eq, decide_eq_true_eq] at h
      have : ord.getD k 0 = v := by rw [List.getD_eq_getElem?_getD, hk]; rfl
      refine ⟨k, hlt, ?_, ?_⟩
      · unfold sAt; rw [this]; exact h.1
      · unfold lAt; rw [this]; exact h.2
    · cases hk
  · rintro ⟨k, hk, h1, h2⟩
    have gk : ord[k]? = some (ord.getD k 0) := Ord.getI (by rw [P.len]; omega)
    refine ⟨ord.getD k 0, List.mem_of_getElem? (i := k) (by rw [List.getElem?_take, if_pos hk]; exact gk), ?_⟩
    unfold sAt at h1
    unfold lAt at h2
    rw [Bool.and_eq_true, beq_iff_eq, decide_eq_true_eq]
    exact ⟨h1, h2⟩
theorem ofR_greedy : ∀ (j i : Nat) (slots : List Int) (m : Int), j + i = n → slots.length = n → Greedy ord slots last i → MOk (ord := ord) slots m i →
    Greedy ord (ofR last ord i (ord.drop i) (slots, m)).1 last n ∧ MOk (ord := ord) (ofR last ord i (ord.drop i) (slots, m)).1 (ofR last ord i (ord.drop i) (slots, m)).2 n
  | 0, i, slots, m, h, hs, A, M => by
    have hi : i = n := by omega
    subst hi
    rw [← P.len, List.drop_length, ofR, P.len]
    exact ⟨A, M⟩
  | j + 1, i, slots, m, h, hs, A, M => by
    have hi : i < n := by omega
    have hio : i < ord.length := by rw [P.len]; exact hi
    have hg : ord[i] = ord.getD i 0 := by rw [List.getD_eq_getElem?_getD, List.getElem?_eq_getElem hio]; rfl
    rw [List.drop_eq_getElem_cons hio, ofR, hg]
    have e : ∀ (x : Int) k, k < n → sAt ord (slots.set (ord.getD i 0).toNat x) k = if k = i then x else sAt ord slots k := fun x k hk => sAt_set P hll hs hi x hk
    obtain ⟨s1, s2, s3⟩ := slotR_spec ord last slots i (by omega)
    refine ofR_greedy j (i + 1) _ _ (by omega) (by simpa using hs) ?_ ?_
    · refine greedy_step P hll hs hi A ?_ ?_
      · intro k hk hse
        apply Classical.byContradiction
        intro hc
        rw [← Bool.not_eq_true, takenL_iff P hll slots i (by omega)] at s2
        exact s2 ⟨k, hk, hse, by omega⟩
      · intro t ht
        exact (takenL_iff P hll slots i (by omega) t).1 (s3 t ht)
    · refine ⟨fun k hk => ?_, ?_⟩
      · rw [e _ k (by omega)]
        by_cases ek : k = i
        · rw [if_pos ek]; simp only; omega
        · rw [if_neg ek]
          have := M.b k (by omega)
          simp only; omega
      · right
        by_cases hm : m ≤ ((slotR last slots ord i : Nat) : Int)
        · refine ⟨i, by omega, ?_⟩
          rw [e _ i hi, if_pos rfl]
          simp only; omega
        · rcases M.u with h0 | ⟨k, hk, h0⟩
          · omega
          · by_cases hge : m ≤ ((slotR last slots ord i + 1 : Nat) : Int)
            · refine ⟨i, by omega, ?_⟩
              rw [e _ i hi, if_pos rfl]
              simp only; omega
            · refine ⟨k, by omega, ?_⟩
              rw [e _ k (by omega), if_neg (by omega)]
              simp only; omega
end
end Go.Proofs.Ytcgbdndkfonphaa.Ai
namespace Go.Proofs.Ytcgbdndkfonphaa.Ai
open Go Go.Ai
section
variable (f : FlatV) (F : FitsS f) (G : GoodF f) (hK : Ord.okL (NC f) = true)
include F G hK
theorem ordL_ok : OrdOk f (ordL (NC f)) := by
  have e0 : ordL (NC f) = Ord.outL (NC f) := if_pos hK
  obtain ⟨k1, k2, k3⟩ := ord_facts (NC f) hK
  rw [← e0, NC_len] at k1
  rw [← e0, NC_len] at k2
  rw [← e0] at k3
  have P : PermO f.names.length (ordL (NC f)) := ⟨k1, k2, k3⟩
  refine ⟨P, fun v k hv hk hm => ?_⟩
  obtain ⟨ws, K⟩ := Ord.outL_ok (NC f)
  have hv2 := (P.pos v hv).2
  have hl := P.lt hv
  have := K.t (posO (ordL (NC f)) v) (by rw [← e0, k1]; exact hl) k (by
    rw [← e0, List.getD_eq_getElem?_getD, hv2]
    exact (need_NC f F G v k).2 hm)
  rw [← e0] at this
  obtain ⟨j, hj⟩ := List.getElem?_of_mem this
  rw [List.getElem?_take] at hj
  split at hj
  · rename_i h
    rw [P.at_ hj]; exact h
  · cases hj
abbrev plS : List Int := (slotsF f (ordL (NC f))).2
abbrev plN : Nat := (slotsF f (ordL (NC f))).1.length
abbrev plL : List Int := lastsR f (ordL (NC f))
omit F G hK in
theorem lastsR_len (ord : List Int) : (lastsR f ord).length = f.names.length := by simp [lastsR]
omit F G hK in
theorem lastsR_at {ord : List Int} (v : Nat) (hv : v < f.names.length) : (lastsR f ord).getD v 0 = lastR f ord v := by
  rw [List.getD_eq_getElem?_getD]; simp [lastsR, hv]
omit hK in
theorem lAt_pos {ord : List Int} (P : PermO f.names.length ord) (v : Nat) (hv : v < f.names.length) : lAt ord (lastsR f ord) (posO ord v) = lastR f ord v := by
  unfold lAt
  have e : (ord.getD (posO ord v) 0).toNat = v := by rw [List.getD_eq_getElem?_getD, (P.pos v hv).2]; simp
  rw [e, lastsR_at f v hv]
omit F G hK in
theorem at_pos {ord : List Int} (P : PermO f.names.length ord) (i : Nat) (hi : i < f.names.length) : ∃ v : Nat, v < f.names.length ∧ ord[i]? = some (v : Int) ∧ posO ord v = i := by
  have g := Ord.getI (l := ord) (n := i) (by rw [P.len]; exact hi)
  have r := P.rng _ (List.mem_of_getElem? g)
  refine ⟨(ord.getD i 0).toNat, by omega, ?_, ?_⟩
  · rw [Int.toNat_of_nonneg r.1]; exact g
  · exact P.at_ (by rw [Int.toNat_of_nonneg r.1]; exact g)
omit hK in
theorem lAt_ge {ord : List Int} (P : PermO f.names.length ord) (k : Nat) (hk : k < f.names.length) : (k : Int) ≤ lAt ord (lastsR f ord) k := by
  obtain ⟨v, h1, h2, h3⟩ := at_pos f P k hk
  have := lastR_ge f F G P v h1
  rw [← h3, lAt_pos f F G P v h1]; exact this
theorem pl_len : (plS f).length = f.names.length := by
  have P := (ordL_ok f F G hK).p
  unfold plS slotsF
  rw [plF_len, List.length_replicate, P.len]
theorem pl_greedy : Greedy (ordL (NC f)) (plS f) (plL f) f.names.length ∧ UOk (ord := ordL (NC f)) (last := plL f) (plS f) (slotsF f (ordL (NC f))).1 f.names.length := by
  have P := (ordL_ok f F G hK).p
  have hL := lastsR_len f (ordL (NC f))
  have h := plF_greedy P hL f.names.length 0 (List.replicate (ordL (NC f)).length 0) [] (by omega) (by simp [P.len]) (fun j hj => by omega) ⟨fun k hk => by omega, fun s hs => by simp at hs⟩ (fun k hk => lAt_ge f F G P k hk)
  rw [List.drop_zero] at h
  unfold plS slotsF
  rw [lastF_eq f F G P]
  exact h
theorem ofR_pl : ofR (lastsR f (ordL (NC f))) (ordL (NC f)) 0 (ordL (NC f)) (List.replicate f.names.length 0, 0) = (plS f, (plN f : Int)) := by
  have P := (ordL_ok f F G hK).p
  have hL := lastsR_len f (ordL (NC f))
  obtain ⟨A, U⟩ := pl_greedy f F G hK
  obtain ⟨B, M⟩ := ofR_greedy P hL f.names.length 0 (List.replicate f.names.length 0) 0 (by omega) (by simp) (fun j hj => by omega) ⟨fun k hk => by omega, .inl rfl⟩
  rw [List.drop_zero] at B M
  have len : ∀ (r : List Int) (i : Nat) (s : List Int × Int), (ofR (lastsR f (ordL (NC f))) (ordL (NC f)) i r s).1.length = s.1.length := by
    intro r
    induction r with
    | nil => intro i s; rfl
    | cons x r ih => intro i s; rw [ofR, ih]; simp
  have e1 := greedy_unique P hL (pl_len f F G hK) (by rw [len]; simp) A B
  generalize ofR (lastsR f (ordL (NC f))) (ordL (NC f)) 0 (ordL (NC f)) (List.replicate f.names.length 0, 0) = t at e1 M
  obtain ⟨t1, t2⟩ := t
  simp only at e1 M
  subst e1
  have e2 : t2 = (plN f : Int) := by
    have h1 : (plN f : Int) ≤ t2 := by
      by_cases h0 : plN f = 0
      · rw [h0]
        rcases M.u with h | ⟨k, hk, h⟩
        · omega
        · have := M.b k hk; omega
      · obtain ⟨k, hk, e, _⟩ := U.u (plN f - 1) (by show plN f - 1 < plN f; omega)
        have := M.b k hk
        omega
    rcases M.u with h | ⟨k, hk, h⟩
    · omega
    · have h3 := (U.b k hk).2
      change _ < (plN f : Int) at h3
      omega
  rw [e2]
end
end Go.Proofs.Ytcgbdndkfonphaa.Ai
namespace Go.Proofs.Ytcgbdndkfonphaa.Ai
open Go Go.Ai
variable {call : CallF} {mt : MtF} {md : FuncId → Md}
theorem small15_c (f : FlatV) (H : List AO) (id : Nat) : callV cw mds 15 [.agg f.cs] H id = some (.val (litB (small25 f)) none) := small15_call f H id
theorem store_pl (f : FlatV) (R : List AO) {O S : AV} {o s : List Int} (hO : RowA O o) (hS : RowA S s) (m : Int) (x : List AV) (hx : x.length = 3) (r : Nat) (H : List AO) (h : H[r]? = some (.row x 32)) : storeAt H 3 (.ptr r 0) (planA O S m) = some (setL H r (.row [O, S, litI .i64 m] 32)) :=
  storeAt_agg (cs := x) h hx rfl (by simp [hO.cell.1, hS.cell.1]; rfl)
abbrev zPl : List AV := [.sl 0 [] (some 0), .sl 0 [] (some 0), litI .i64 0]
theorem plan_both (f : FlatV) (F : FitsS f) : ∃ (O S O' S' : AV) (o s : List Int) (m e : Int), RowA O o ∧ RowA S s ∧ RowA O' o ∧ RowA S' s ∧ o.length ≤ 1000000 ∧ s.length ≤ 1000000 ∧
    (∀ H id, callV cw mds 16 [.agg f.cs] H id = some (.val (.tup [planA O S m, litI .i64 e]) none)) ∧ (∀ H id, callV cw mds 11 [.agg f.cs] H id = some (.val (.tup [planA O' S' m, litI .i64 e]) none)) := by
  cases hp : planOk f with
  | false =>
    refine ⟨_, _, _, _, [], [], 0, errA (goodOk f) (Ord.okL (NC f)), RowA.nil, RowA.nil, RowA.nil, RowA.nil, by simp, by simp, fun H id => planOf_bad f F hp H id, fun H id => ?_⟩
    unfold planOk at hp
    cases hG : goodOk f with
    | false =>
      have := rof_bad f F (.inl hG) H id
      rw [hG] at this
      exact this
    | true =>
      rw [hG, Bool.true_and] at hp
      have := rof_bad f F (.inr (by rw [ordRef_eq f F (goodF_of hG), hp]; rfl)) H id
      rw [hG] at this
      rw [hp]; exact this
  | true =>
    obtain ⟨B, hB, h1⟩ := planOf_good f F hp
    unfold planOk at hp
    rw [Bool.and_eq_true] at hp
    obtain ⟨hG, hK⟩ := hp
    have G := goodF_of hG
    have ho : ordRef (NR f) = some (ordL (NC f)) := by rw [ordRef_eq f F G, if_pos hK]
    obtain ⟨B', hB', h2⟩ := rof_good f F hG ho
    rw [ofR_pl f F G hK] at h2
    have hn := F.names
    have P := (ordL_ok f F G hK).p
    have hl := pl_len f F G hK
    exact ⟨_, _, _, _, _, _, _, 0, hB, RowA.of _ _, hB', RowA.of _ _, by rw [P.len]; omega, by rw [show (slotsF f (ordL (NC f))).2 = plS f from rfl, hl]; omega, fun H id => h1 H id, fun H id => h2 H id⟩
theorem planOf5_tells (f : FlatV) : ∃ H', cw 5 [flatA f] [] = some (.ret (litB true), H') := by
  have lA0 : Ai.load [.row f.cs 29] (some 8) (.ptr 0 0) = some (.agg f.cs) := load_agg rfl rfl
  have hsm := small15_c f
  cases hs : small25 f with
  | false =>
    rw [hs] at hsm
    refine ⟨_, cw_of fn5 (c := c5) (r := (.ret (litB true), [.row f.cs 29])) rfl rfl rfl rfl ?_⟩
    simp -implicitDefEqProofs only [c5, aW, ↓aP, makes, reduceLT, reduceEqDiff, reduceAdd, core_box, flat_f, List.length_nil, List.length_cons, lA0, hsm]
    rfl
  | true =>
    rw [hs] at hsm
    obtain ⟨O, S, O', S', o, s, m, e, hO, hS, hO', hS', lo, ls, h1, h2⟩ := plan_both f (fitsS_of f hs)
    have st1 : storeAt [.row f.cs 29, .row zPl 32] 3 (.ptr 1 0) (planA O S m) = some [.row f.cs 29, .row [O, S, litI .i64 m] 32] := store_pl f [] hO hS m _ rfl _ _ rfl
    have st2 : storeAt [.row f.cs 29, .row [O, S, litI .i64 m] 32, .row zPl 32] 3 (.ptr 2 0) (planA O' S' m) = some [.row f.cs 29, .row [O, S, litI .i64 m] 32, .row [O', S', litI .i64 m] 32] := store_pl f [] hO' hS' m _ rfl _ _ rfl
    have lA1 : Ai.load [.row f.cs 29, .row [O, S, litI .i64 m] 32] (some 8) (.ptr 0 0) = some (.agg f.cs) := load_agg rfl rfl
    have lP1 : Ai.load [.row f.cs 29, .row [O, S, litI .i64 m] 32, .row [O', S', litI .i64 m] 32] (some 3) (.ptr 1 0) = some (planA O S m) := load_agg rfl rfl
    have lP2 : Ai.load [.row f.cs 29, .row [O, S, litI .i64 m] 32, .row [O', S', litI .i64 m] 32] (some 3) (.ptr 2 0) = some (planA O' S' m) := load_agg rfl rfl
    have hsame := same_call hO hS hO' hS' lo ls m
    have haw := awake18_call
    refine ⟨_, cw_of fn5 (c := c5) (r := (.ret (litB true), [.row f.cs 29, .row [O, S, litI .i64 m] 32, .row [O', S', litI .i64 m] 32])) rfl rfl rfl rfl ?_⟩
    simp -implicitDefEqProofs only [c5, aW, ↓aP, makes, reduceLT, reduceEqDiff, reduceAdd, core_box, flat_f, List.length_nil, List.length_cons, lA0, hsm, h1, st1, lA1, h2, st2, lP1, lP2, hsame, haw]
    rfl
end Go.Proofs.Ytcgbdndkfonphaa.Ai
namespace Go.Proofs.Ytcgbdndkfonphaa.Ai
open Go Go.Ai
set_option maxRecDepth 100000
theorem flat_arg {a : AV} (h : argSh Try.prog 29 tFlat a) : ∃ f : FlatV, a = flatA f := by
  unfold argSh at h
  rw [Try.underlying29] at h
  simp only at h
  obtain ⟨xs, rfl, h2⟩ := h
  obtain ⟨f, rfl⟩ := flat_sh h2
  exact ⟨f, rfl⟩
end Go.Proofs.Ytcgbdndkfonphaa.Ai
