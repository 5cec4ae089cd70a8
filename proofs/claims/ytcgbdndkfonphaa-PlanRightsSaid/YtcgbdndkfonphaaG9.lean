/- Seat of layers 14 and 15: plan.Right is told. No condition. -/
import Derived.Test.YtcgbdndkfonphaaG8
set_option linter.unusedSimpArgs false
set_option linter.unusedVariables false
set_option linter.unusedSectionVars false
open Nat (reduceLT reduceEqDiff reduceAdd)
namespace Go.Proofs.Ytcgbdndkfonphaa.Ai
open Go Go.Ai
section
variable {call : CallF} {mt : MtF} {md : FuncId → Md}
theorem core_lkp {H : List AO} {id : Nat} {fr : Fr} (kk : KK) (ok : Bool) (z : AV) (m x : X) : core call mt md H id (.lkp kk ok z m x) fr = valO (lkpV H kk ok z (ev fr m) (ev fr x)) := rfl
theorem core_mup {H : List AO} {id : Nat} {fr : Fr} (kk : KK) (m k x : X) : core call mt md H id (.mup kk m k x) fr = wrO .any (mupH H kk (ev fr m) (ev fr k) (ev fr x)) := rfl
theorem core_mkm {H : List AO} {id : Nat} {fr : Fr} : core call mt md H id .mkm fr = some (.val (.mpv id) (some (.mp []))) := rfl
def mpE (L : List (Int × Int)) : List (Value × AV) := L.map fun p => (.int .i64 p.1, litI .i64 p.2)
def findL (k : Int) : List (Int × Int) → Nat → Option (Nat × Int)
  | [], _ => none
  | p :: r, i => if p.1 = k then some (i, p.2) else findL k r (i + 1)
def lookL (L : List (Int × Int)) (k : Int) : Option Int := (findL k L 0).map (·.2)
theorem findK_int (k : Int) : ∀ (L : List (Int × Int)) (i : Nat), findK (.int .i64) (.int .i64 k) (mpE L) i = some ((findL k L i).map fun p => (p.1, litI .i64 p.2))
  | [], _ => rfl
  | p :: r, i => by
    simp only [mpE, List.map_cons, findK, findL]
    have hs : sameK (.int .i64) (.int .i64 k) (.int .i64 p.1) = some (decide (p.1 = k)) := by
      have h0 : sameK (.int .i64) (.int .i64 k) (.int .i64 p.1) = some (k == p.1) := rfl
      rw [h0]
      congr 1
      rw [Bool.eq_iff_iff, beq_iff_eq, decide_eq_true_eq]
      exact eq_comm
    rw [hs]
    by_cases h : p.1 = k
    · simp only [h, decide_true, if_true, Option.map_some]
    · simp only [h, decide_false, if_false]
      exact findK_int k r (i + 1)
theorem findL_spec (k : Int) : ∀ (L : List (Int × Int)) (i : Nat), (findL k L i = none ∧ ∀ p ∈ L, p.1 ≠ k) ∨ ∃ j x, findL k L i = some (i + j, x) ∧ L[j]? = some (k, x) ∧ ∀ p ∈ L.take j, p.1 ≠ k
  | [], _ => .inl ⟨rfl, by simp⟩
  | p :: r, i => by
    rw [findL]
    by_cases h : p.1 = k
    · right
      refine ⟨0, p.2, by rw [if_pos h]; rfl, by simp [← h], by simp⟩
    · rw [if_neg h]
      rcases findL_spec k r (i + 1) with ⟨h1, h2⟩ | ⟨j, x, h1, h2, h3⟩
      · left
        refine ⟨h1, fun q hq => ?_⟩
        rcases List.mem_cons.1 hq with rfl | hq
        · exact h
        · exact h2 q hq
      · right
        refine ⟨j + 1, x, by rw [h1]; congr 2; omega, by simpa using h2, fun q hq => ?_⟩
        rw [List.take_succ_cons] at hq
        rcases List.mem_cons.1 hq with rfl | hq
        · exact h
        · exact h3 q hq
theorem findL_skip (k : Int) : ∀ (L M : List (Int × Int)) (i : Nat), (∀ p ∈ L, p.1 ≠ k) → findL k (L ++ M) i = findL k M (i + L.length)
  | [], _, _, _ => by simp
  | p :: r, M, i, h => by
    rw [List.cons_append, findL, if_neg (h p (List.mem_cons_self ..)), findL_skip k r M (i + 1) fun q hq => h q (List.mem_cons_of_mem _ hq)]
    congr 1; simp; omega
def MapIs (L : List (Int × Int)) (m : Int → Option Int) : Prop := ∀ k, lookL L k = m k
theorem keyOf_int (k : Int) : Ai.keyOf (.int .i64) (litI .i64 k) = some (.int .i64 k) := rfl
theorem lkp_int {H : List AO} {r : Nat} {L : List (Int × Int)} {m : Int → Option Int} (h : H[r]? = some (.mp (mpE L))) (M : MapIs L m) (k : Int) :
    lkpV H (.int .i64) true (litI .i64 0) (.mpv r) (litI .i64 k) = some (match m k with | some x => .tup [litI .i64 x, litB true] | none => .tup [litI .i64 0, litB false]) := by
  have h0 := M k
  unfold lookL at h0
  simp only [lkpV, mapAt, h, Option.bind_some, keyOf_int, findK_int]
  cases hf : findL k L 0 with
  | none => rw [hf] at h0; simp only [Option.map_none] at h0; rw [← h0]; rfl
  | some p => rw [hf] at h0; simp only [Option.map_some] at h0; rw [← h0]; rfl
theorem mup_int {H : List AO} {r : Nat} {L : List (Int × Int)} {m : Int → Option Int} (h : H[r]? = some (.mp (mpE L))) (M : MapIs L m) (k x : Int) :
    ∃ L', mupH H (.int .i64) (.mpv r) (litI .i64 k) (litI .i64 x) = some (setL H r (.mp (mpE L'))) ∧ MapIs L' fun j => if j = k then some x else m j := by
  rcases findL_spec k L 0 with ⟨h1, h2⟩ | ⟨j, y, h1, h2, h3⟩
  · refine ⟨L ++ [(k, x)], ?_, fun j => ?_⟩
    · simp only [mupH, mapAt, h, Option.bind_some, keyOf_int, findK_int, h1, Option.map_none]
      simp [mpE]
    · by_cases e : j = k
      · subst e
        unfold lookL
        rw [findL_skip j L _ 0 h2]; simp [findL]
      · simp only [e, if_false]
        rw [← M j]
        unfold lookL
        rcases findL_spec j L 0 with ⟨k1, k2⟩ | ⟨i, z, k1, k2, k3⟩
        · rw [findL_skip j L _ 0 k2, k1]; simp [findL, Ne.symm e]
        · have hs : L = L.take i ++ (j, z) :: L.drop (i + 1) := by
            have hlt := (List.getElem?_eq_some_iff.1 k2).1
            have := List.drop_eq_getElem_cons hlt
            rw [(List.getElem?_eq_some_iff.1 k2).2] at this
            rw [← this, List.take_append_drop]
          rw [k1]
          rw [hs, List.append_assoc, findL_skip j _ _ 0 k3]
          simp [findL]
  · rw [Nat.zero_add] at h1
    have hlt := (List.getElem?_eq_some_iff.1 h2).1
    have hs : L = L.take j ++ (k, y) :: L.drop (j + 1) := by
      have := List.drop_eq_getElem_cons hlt
      rw [(List.getElem?_eq_some_iff.1 h2).2] at this
      rw [← this, List.take_append_drop]
    have hset : L.set j (k, x) = L.take j ++ (k, x) :: L.drop (j + 1) := by
      rw [List.set_eq_take_append_cons_drop, if_pos hlt]
    refine ⟨L.set j (k, x), ?_, fun i => ?_⟩
    · simp only [mupH, mapAt, h, Option.bind_some, keyOf_int, findK_int, h1, Option.map_some]
      simp [mpE, List.map_set]
    · by_cases e : i = k
      · subst e
        unfold lookL
        rw [hset, findL_skip i _ _ 0 h3]; simp [findL]
      · simp only [e, if_false]
        rw [← M i]
        rcases findL_spec i (L.take j) 0 with ⟨k1, k2⟩ | ⟨a, z, k1, k2, k3⟩
        · unfold lookL
          rw [hset, findL_skip i _ _ 0 k2]
          conv => rhs; rw [hs, findL_skip i _ _ 0 k2]
          simp [findL, Ne.symm e]
        · have hsp : L.take j = (L.take j).take a ++ (i, z) :: (L.take j).drop (a + 1) := by
            have hlt := (List.getElem?_eq_some_iff.1 k2).1
            have := List.drop_eq_getElem_cons hlt
            rw [(List.getElem?_eq_some_iff.1 k2).2] at this
            rw [← this, List.take_append_drop]
          unfold lookL
          rw [hset, hsp, List.append_assoc, findL_skip i _ _ 0 k3]
          conv => rhs; rw [hs, hsp, List.append_assoc, findL_skip i _ _ 0 k3]
          simp [findL]
end
section
variable {call : CallF} {mt : MtF} {md : FuncId → Md}
def liesOk (last slots : List Int) : Nat → List Int → (Int → Option Int) → Bool
  | _, [], _ => true
  | i, v :: r, m => (match m (slots.getD v.toNat 0) with | some old => decide (last.getD old.toNat 0 < (i : Int)) | none => true) &&
    liesOk last slots (i + 1) r fun j => if j = slots.getD v.toNat 0 then some v else m j
def rightF (f : FlatV) (ord slots : List Int) (m : Int) : Bool :=
  goodOk f && ((ord.length : Int) == (f.names.length : Int)) && ((slots.length : Int) == (f.names.length : Int)) && !(slots.any fun s => decide (s < 0) || decide (s ≥ m)) && orderedF f ord && liesOk (lastF f ord) slots 0 ord fun _ => none
theorem strange36_call {H : List AO} {O S : AV} {m : Int} (h : H[1]? = some (.row [O, S, litI .i64 m] 32)) (x : Int) (id : Nat) :
    fnV cw mds (.fn (.func 36) [] [.ptr 1 0]) [litI .i64 x] H id = some (.wr (litB (decide (x < 0) || decide (x ≥ m))) H) := by
  show callV cw mds 36 [litI .i64 x, .ptr 1 0] H id = _
  refine callV_same rfl (cw_of fn36 (c := c36) rfl rfl rfl rfl ?_) rfl
  have l2 : Ai.load H none (.ptr 1 2) = some (litI .i64 m) := by rw [load_ptr h]; rfl
  by_cases h0 : x < 0
  · simp -implicitDefEqProofs only [c36, aW, ↓aP, makes, reduceLT, reduceEqDiff, reduceAdd, h0]
    rfl
  · simp -implicitDefEqProofs only [c36, aW, ↓aP, makes, reduceLT, reduceEqDiff, reduceAdd, h0, fadr_ptr, Nat.zero_add, l2]
    rfl
def rgH (f : FlatV) (O S : AV) (m : Int) (first last : List Int) (c1 c2 : Option Nat) (L : List (Int × Int)) : List AO := [.row f.cs 29, .row [O, S, litI .i64 m] 32, .row [rowC first c1, rowC last c2] 76, .mp (mpE L)]
theorem rg_loop (f : FlatV) (O S : AV) (ord slots : List Int) (hO : RowA O ord) (hS : RowA S slots) (mm : Int) (first last : List Int) (c1 c2 : Option Nat) (n : Nat) (hl : ord.length ≤ 1000000) (hsl : slots.length = n) (hll : last.length = n) (hr : ∀ x ∈ ord, 0 ≤ x ∧ x < (n : Int)) : ∀ (k i : Nat) (L : List (Int × Int)) (m : Int → Option Int), k + i = ord.length → MapIs L m → (∀ j x, m j = some x → 0 ≤ x ∧ x < (n : Int)) →
    ∃ H', loopW (codeW cw (lookM mtl) mds c19l0) [3, 7, 8, 53, 54, 55] [(3, .ptr 1 0), (7, .ptr 2 0), (8, .mpv 3), (53, O), (54, litI .i64 ord.length), (55, litI .i64 i)] (rgH f O S mm first last c1 c2 L) =
      some (if liesOk last slots i (ord.drop i) m = true then (.exit 0, [(3, .ptr 1 0), (7, .ptr 2 0), (8, .mpv 3), (53, O), (54, litI .i64 ord.length), (55, litI .i64 ord.length), (56, litB false)], H') else (.ret, [(4, litB false)], H'))
  | 0, i, L, m, h, M, hm => by
    have hi : i = ord.length := by omega
    subst hi
    rw [List.drop_length, liesOk]
    refine ⟨rgH f O S mm first last c1 c2 L, ?_⟩
    rw [if_pos rfl]
    refine loopW_out ?_ (by simp)
    simp -implicitDefEqProofs only [c19l0, aW, ↓aP, makes, reduceLT, reduceEqDiff, reduceAdd, Int.lt_irrefl]
  | k + 1, i, L, m, h, M, hm => by
    have hi : i < ord.length := by omega
    have hg : ord[i]? = some ord[i] := List.getElem?_eq_getElem hi
    have hlt : (i : Int) < ord.length := by omega
    have hx := hr _ (List.getElem_mem hi)
    rw [List.drop_eq_getElem_cons hi, liesOk]
    generalize ord[i] = v at hg hx
    have lS : Ai.load (rgH f O S mm first last c1 c2 L) none (.ptr 1 1) = some S := rfl
    have lL : Ai.load (rgH f O S mm first last c1 c2 L) none (.ptr 2 1) = some (rowC last c2) := rfl
    have iS : iadr 1 S (litI .i64 v) = some (.ip [litI .i64 (slots.getD v.toNat 0)]) := by
      have := hS.iadr (n := v.toNat) (x := slots.getD v.toNat 0) (Ord.getI (by omega))
      rw [Int.toNat_of_nonneg hx.1] at this
      exact this
    have hk := lkp_int (H := rgH f O S mm first last c1 c2 L) (r := 3) rfl M (slots.getD v.toNat 0)
    obtain ⟨L', hu, M'⟩ := mup_int (H := rgH f O S mm first last c1 c2 L) (r := 3) rfl M (slots.getD v.toNat 0) v
    rw [show setL (rgH f O S mm first last c1 c2 L) 3 (.mp (mpE L')) = rgH f O S mm first last c1 c2 L' from rfl] at hu
    obtain ⟨H', ih⟩ := rg_loop f O S ord slots hO hS mm first last c1 c2 n hl hsl hll hr k (i + 1) L' _ (by omega) M' (fun j x hj => by
      by_cases e : j = slots.getD v.toNat 0
      · rw [if_pos e] at hj; simp only [sI] at hj; rw [← hj]; exact hx
      · rw [if_neg e] at hj; exact hm j x hj)
    have hw := wrap1 (show i < 4611686018427387904 by omega)
    cases hmk : m (slots.getD v.toNat 0) with
    | none =>
      rw [hmk] at hk
      refine ⟨H', ?_⟩
      rw [Bool.true_and]
      refine loopW_round ?_ ih
      simp -implicitDefEqProofs only [c19l0, aW, ↓aP, makes, reduceLT, reduceEqDiff, reduceAdd, hlt, hO.iadr hg, fadr_ptr, Nat.zero_add, lS, iS, load_ip1, core_lkp, core_mup, hk, hu, hw]
    | some old =>
      rw [hmk] at hk
      have ho := hm _ old hmk
      have iL : iadr 1 (rowC last c2) (litI .i64 old) = some (.ip [litI .i64 (last.getD old.toNat 0)]) := by
        have := iadr_row last c2 old.toNat
        rw [Int.toNat_of_nonneg ho.1, Ord.getI (by omega)] at this
        exact this
      by_cases hge : last.getD old.toNat 0 ≥ (i : Int)
      · have hlt2 : ¬ last.getD old.toNat 0 < (i : Int) := by omega
        refine ⟨rgH f O S mm first last c1 c2 L, ?_⟩
        simp only [decide_eq_false hlt2, Bool.false_and]
        rw [if_neg (by simp)]
        refine loopW_out ?_ (by simp)
        simp -implicitDefEqProofs only [c19l0, aW, ↓aP, makes, reduceLT, reduceEqDiff, reduceAdd, hlt, hO.iadr hg, fadr_ptr, Nat.zero_add, lS, iS, load_ip1, core_lkp, core_mup, hk, lL, iL, hge]
      · have hlt2 : last.getD old.toNat 0 < (i : Int) := by omega
        refine ⟨H', ?_⟩
        simp only [decide_eq_true hlt2, Bool.true_and]
        refine loopW_round ?_ ih
        simp -implicitDefEqProofs only [c19l0, aW, ↓aP, makes, reduceLT, reduceEqDiff, reduceAdd, hlt, hO.iadr hg, fadr_ptr, Nat.zero_add, lS, iS, load_ip1, core_lkp, core_mup, hk, lL, iL, hge, hu, hw]
theorem atF_rng (n : Nat) : ∀ (r at_ : List Int) (i : Nat) (at' : List Int), atF n at_ i r = some at' → ∀ x ∈ r, 0 ≤ x ∧ x < (n : Int)
  | [], _, _, _, _ => by simp
  | v :: r, at_, i, at', h => by
    rw [atF] at h
    split at h
    · cases h
    · rename_i hc
      intro x hx
      rcases List.mem_cons.1 hx with rfl | hx
      · omega
      · exact atF_rng n r _ _ at' h x hx
theorem pright_call (f : FlatV) (F : FitsS f) {O S : AV} {ord slots : List Int} (hO : RowA O ord) (hS : RowA S slots) (hlo : ord.length ≤ 1000000) (hls : slots.length ≤ 1000000) (m : Int) (H : List AO) (id : Nat) :
    callV cw mds 19 [flatA f, planA O S m] H id = some (.val (litB (rightF f ord slots m)) none) := by
  obtain ⟨eO, xO, cO, eqO⟩ := hO.cases
  obtain ⟨eS, xS, cS, eqS⟩ := hS.cases
  have hw : [flatA f, planA O S m].all wholeA = true := by rw [eqO, eqS]; rfl
  suffices hs : ∃ H', cw 19 [flatA f, planA O S m] [] = some (.ret (litB (rightF f ord slots m)), H') by
    obtain ⟨H', h⟩ := hs
    exact callV_pureA rfl hw h rfl
  have hgc : ∀ H id, callV cw mds 37 [.agg f.cs] H id = some (.val (litB (goodOk f)) none) := fun H id => good_call f F.fits H id
  have hb : ∀ id, boxV id 3 (planA O S m) 32 = some (.val (.ptr id 0) (some (.row [O, S, litI .i64 m] 32))) := fun id => boxV_agg rfl (by simp [hO.cell.1, hS.cell.1]; rfl)
  have lA : Ai.load [.row f.cs 29, .row [O, S, litI .i64 m] 32] (some 8) (.ptr 0 0) = some (.agg f.cs) := load_agg rfl rfl
  have l1 : Ai.load [.row f.cs 29, .row [O, S, litI .i64 m] 32] none (.ptr 0 1) = some (strs f.names) := rfl
  have k0 : Ai.load [.row f.cs 29, .row [O, S, litI .i64 m] 32] none (.ptr 1 0) = some O := rfl
  have k1 : Ai.load [.row f.cs 29, .row [O, S, litI .i64 m] 32] none (.ptr 1 1) = some S := rfl
  unfold rightF
  cases hG : goodOk f with
  | false =>
    rw [hG] at hgc
    refine ⟨_, cw_of fn19 (c := c19) (r := (.ret (litB false), [.row f.cs 29, .row [O, S, litI .i64 m] 32])) rfl rfl rfl rfl ?_⟩
    simp -implicitDefEqProofs only [c19, aW, ↓aP, makes, reduceLT, reduceEqDiff, reduceAdd, core_box, flat_f, hb, List.length_nil, List.length_cons, fadr_ptr, Nat.zero_add, l1, lenV_strs, core_mkf, lA, hgc]
    rfl
  | true =>
  rw [hG] at hgc
  cases e1 : ((ord.length : Int) == (f.names.length : Int)) with
  | false =>
    have e1' : ((ord.length : Int) != (f.names.length : Int)) = true := by rw [bne, e1]; rfl
    refine ⟨_, cw_of fn19 (c := c19) (r := (.ret (litB false), [.row f.cs 29, .row [O, S, litI .i64 m] 32])) rfl rfl rfl rfl ?_⟩
    simp -implicitDefEqProofs only [c19, aW, ↓aP, makes, reduceLT, reduceEqDiff, reduceAdd, core_box, flat_f, hb, List.length_nil, List.length_cons, fadr_ptr, Nat.zero_add, l1, lenV_strs, core_mkf, lA, hgc, k0, hO.lenV, e1']
    rfl
  | true =>
  have e1' : ((ord.length : Int) != (f.names.length : Int)) = false := by rw [bne, e1]; rfl
  cases e2 : ((slots.length : Int) == (f.names.length : Int)) with
  | false =>
    have e2' : ((slots.length : Int) != (f.names.length : Int)) = true := by rw [bne, e2]; rfl
    refine ⟨_, cw_of fn19 (c := c19) (r := (.ret (litB false), [.row f.cs 29, .row [O, S, litI .i64 m] 32])) rfl rfl rfl rfl ?_⟩
    simp -implicitDefEqProofs only [c19, aW, ↓aP, makes, reduceLT, reduceEqDiff, reduceAdd, core_box, flat_f, hb, List.length_nil, List.length_cons, fadr_ptr, Nat.zero_add, l1, lenV_strs, core_mkf, lA, hgc, k0, hO.lenV, e1', k1, hS.lenV, e2']
    rfl
  | true =>
  have e2' : ((slots.length : Int) != (f.names.length : Int)) = false := by rw [bne, e2]; rfl
  have hc := fun id => contains38r_call S slots (fun s => decide (s < 0) || decide (s ≥ m)) (.fn (.func 36) [] [.ptr 1 0]) [.row f.cs 29, .row [O, S, litI .i64 m] 32] (reads_row hS) (fun x _ id => strange36_call rfl x id) hls id
  cases e3 : slots.any (fun s => decide (s < 0) || decide (s ≥ m)) with
  | true =>
    rw [e3] at hc
    refine ⟨_, cw_of fn19 (c := c19) (r := (.ret (litB false), [.row f.cs 29, .row [O, S, litI .i64 m] 32])) rfl rfl rfl rfl ?_⟩
    simp -implicitDefEqProofs only [c19, aW, ↓aP, makes, reduceLT, reduceEqDiff, reduceAdd, core_box, flat_f, hb, List.length_nil, List.length_cons, fadr_ptr, Nat.zero_add, l1, lenV_strs, core_mkf, lA, hgc, k0, hO.lenV, e1', k1, hS.lenV, e2', hc]
    rfl
  | false =>
  rw [e3] at hc
  have hod : ∀ H id, callV cw mds 39 [.agg f.cs, O] H id = some (.val (litB (orderedF f ord)) none) := fun H id => ordered_call f F hG hO hlo H id
  cases e4 : orderedF f ord with
  | false =>
    rw [e4] at hod
    refine ⟨_, cw_of fn19 (c := c19) (r := (.ret (litB false), [.row f.cs 29, .row [O, S, litI .i64 m] 32])) rfl rfl rfl rfl ?_⟩
    simp -implicitDefEqProofs only [c19, aW, ↓aP, makes, reduceLT, reduceEqDiff, reduceAdd, core_box, flat_f, hb, List.length_nil, List.length_cons, fadr_ptr, Nat.zero_add, l1, lenV_strs, core_mkf, lA, hgc, k0, hO.lenV, e1', k1, hS.lenV, e2', hc, hod]
    rfl
  | true =>
  rw [e4] at hod
  have hol : ord.length = f.names.length := by have := eq_of_beq e1; omega
  have hsl : slots.length = f.names.length := by have := eq_of_beq e2; omega
  have hr : ∀ x ∈ ord, 0 ≤ x ∧ x < (f.names.length : Int) := by
    unfold orderedF at e4
    cases ha : atF f.names.length (List.replicate f.names.length (-1)) 0 ord with
    | none => rw [ha] at e4; cases e4
    | some at_ => exact atF_rng _ _ _ _ at_ ha
  have hof : ∀ H id, callV cw mds 33 [.agg f.cs, O] H id = some (.val (.agg [rowC (firstF ord) (some ord.length), rowC (lastF f ord) (some ord.length)]) none) := fun H id => of_call f F hG hO hol hr H id
  have st : storeAt [.row f.cs 29, .row [O, S, litI .i64 m] 32, .row [.sl 0 [] (some 0), .sl 0 [] (some 0)] 76] 2 (.ptr 2 0) (.agg [rowC (firstF ord) (some ord.length), rowC (lastF f ord) (some ord.length)]) = some [.row f.cs 29, .row [O, S, litI .i64 m] 32, .row [rowC (firstF ord) (some ord.length), rowC (lastF f ord) (some ord.length)] 76] := by
    rw [storeAt_agg (r := 2) (n := 2) (cs := [.sl 0 [] (some 0), .sl 0 [] (some 0)]) (t := 76) rfl rfl rfl rfl]; rfl
  have k0' : Ai.load [.row f.cs 29, .row [O, S, litI .i64 m] 32, .row [rowC (firstF ord) (some ord.length), rowC (lastF f ord) (some ord.length)] 76, .mp []] none (.ptr 1 0) = some O := rfl
  obtain ⟨H', L⟩ := rg_loop f O S ord slots hO hS m (firstF ord) (lastF f ord) (some ord.length) (some ord.length) f.names.length hlo hsl (by rw [lastF_len, hol]) hr ord.length 0 [] (fun _ => none) (by omega) (fun k => rfl) (fun j x h => by cases h)
  rw [show ((0 : Nat) : Int) = 0 from rfl, List.drop_zero, show rgH f O S m (firstF ord) (lastF f ord) (some ord.length) (some ord.length) [] = [.row f.cs 29, .row [O, S, litI .i64 m] 32, .row [rowC (firstF ord) (some ord.length), rowC (lastF f ord) (some ord.length)] 76, .mp []] from rfl] at L
  cases e5 : liesOk (lastF f ord) slots 0 ord (fun _ => none) with
  | true =>
    rw [if_pos e5] at L
    refine ⟨H', cw_of fn19 (c := c19) rfl rfl rfl rfl ?_⟩
    simp -implicitDefEqProofs only [c19, aW, ↓aP, makes, reduceLT, reduceEqDiff, reduceAdd, core_box, flat_f, hb, List.length_nil, List.length_cons, fadr_ptr, Nat.zero_add, l1, lenV_strs, core_mkf, lA, hgc, k0, hO.lenV, e1', k1, hS.lenV, e2', hc, hod, hof, st, core_mkm, k0', L]
    rfl
  | false =>
    rw [if_neg (by rw [e5]; simp)] at L
    refine ⟨H', cw_of fn19 (c := c19) rfl rfl rfl rfl ?_⟩
    simp -implicitDefEqProofs only [c19, aW, ↓aP, makes, reduceLT, reduceEqDiff, reduceAdd, core_box, flat_f, hb, List.length_nil, List.length_cons, fadr_ptr, Nat.zero_add, l1, lenV_strs, core_mkf, lA, hgc, k0, hO.lenV, e1', k1, hS.lenV, e2', hc, hod, hof, st, core_mkm, k0', L]
    rfl
end
section
variable {call : CallF} {mt : MtF} {md : FuncId → Md}
def needR (f : FlatV) (q : Eqn) : List Int := q.args ++ (if q.guard ≥ 0 then [q.guard] else []) ++ begF f q
theorem need22_call (f : FlatV) (F : FitsS f) (q : Eqn) (hq : q.args.length ≤ 30) (K : KOk f q) : ∃ B, RowA B (needR f q) ∧ ∀ H id, callV cw mds 22 [.agg f.cs, .agg q.cs] H id = some (.val B none) := by
  have hbl := begF_len f F q K
  have O0 : Own [AO.row f.cs 29, .row q.cs 60] ([] ++ [(0, f.cs, 29), (1, q.cs, 60)]) := by
    refine ⟨by simp, fun x hx => ?_⟩
    simp only [List.nil_append, List.mem_cons, List.not_mem_nil, or_false] at hx
    rcases hx with rfl | rfl <;> rfl
  have l2 : Ai.load [.row f.cs 29, .row q.cs 60] none (.ptr 1 2) = some (rowC q.args none) := rfl
  obtain ⟨A1, o1, H1, ap1, S1, O1⟩ := (SlX.nil 1).append O0 (RowA.of q.args none) (by simp; omega)
  simp only [List.length_cons, List.length_nil, Nat.zero_add, reduceAdd] at ap1
  rw [List.nil_append] at S1
  have l9 : Ai.load H1 none (.ptr 1 9) = some (litI .i64 q.guard) := own_load O1 (cs := q.cs) (t := 60) (by simp) rfl
  suffices hs : ∃ A o H', cw 22 [.agg f.cs, .agg q.cs] [] = some (.ret A, H') ∧ SlX A (needR f q) o ∧ Own H' o by
    obtain ⟨A, o, H', h, S, O⟩ := hs
    obtain ⟨B, h1, _, h2⟩ := callV_frz1 (H := []) (id := 0) rfl rfl h S O
    exact ⟨B, h1, h2⟩
  by_cases hg : q.guard ≥ 0
  · obtain ⟨A2, o2, H2, ap2, S2, O2⟩ := S1.append O1 (RowA.of [q.guard] (some 1)) (by simp; omega)
    have la : Ai.load H2 none (.ptr 1 1) = some (litS q.op) := own_load O2 (cs := q.cs) (t := 60) (by simp) rfl
    have lk : Ai.load H2 none (.ptr 1 3) = some (litI .i64 q.k) := own_load O2 (cs := q.cs) (t := 60) (by simp) rfl
    have l4 : Ai.load H2 none (.ptr 0 4) = some (memsA f.mems) := own_load O2 (cs := f.cs) (t := 29) (by simp) rfl
    have l5 : Ai.load H2 none (.ptr 0 5) = some (contsA f.conts) := own_load O2 (cs := f.cs) (t := 29) (by simp) rfl
    cases hm : isS q.op [109, 101, 109] with
    | true =>
      obtain ⟨m, h1, h2, h3⟩ := iadr_memsI (K.m hm)
      have hk : isS q.op [99, 111, 110, 116] = false := isS_ne hm rfl
      have hml := F.mres m (List.mem_of_getElem? h1)
      obtain ⟨A3, o3, H3, ap3, S3, O3⟩ := S2.append O2 (RowA.of m.resets none) (by simp; omega)
      have la3 : Ai.load H3 none (.ptr 1 1) = some (litS q.op) := own_load O3 (cs := q.cs) (t := 60) (by simp) rfl
      refine ⟨A3, o3, H3, ?_, ?_, O3.sub (List.sublist_append_left ..)⟩
      · refine cw_of fn22 (c := c22) rfl rfl rfl rfl ?_
        simp -implicitDefEqProofs only [c22, aW, ↓aP, makes, reduceLT, reduceEqDiff, reduceAdd, core_box, rt_b8 f, eq_b10 q, core_bsl, bslV_0, bslV_1r, List.length_nil, List.length_cons, List.singleton_append, fadr_ptr, fadr_ip, Nat.zero_add, Nat.add_zero, reduceAdd, l2, ap1.opS, l9, hg, ap2.opS, bin_isS, la, lk, hm, l4, h2, mem_h7, ap3.opS, la3, hk]
        rfl
      · unfold needR begF
        rw [hm, cond_true, h3]; rw [if_pos hg]; exact S3
    | false =>
      cases hk : isS q.op [99, 111, 110, 116] with
      | true =>
        obtain ⟨m, h1, h2, h3⟩ := iadr_contsI (K.k hk)
        have hml := F.cres m (List.mem_of_getElem? h1)
        obtain ⟨A3, o3, H3, ap3, S3, O3⟩ := S2.append O2 (RowA.of m.resets none) (by simp; omega)
        refine ⟨A3, o3, H3, ?_, ?_, O3.sub (List.sublist_append_left ..)⟩
        · refine cw_of fn22 (c := c22) rfl rfl rfl rfl ?_
          simp -implicitDefEqProofs only [c22, aW, ↓aP, makes, reduceLT, reduceEqDiff, reduceAdd, core_box, rt_b8 f, eq_b10 q, core_bsl, bslV_0, bslV_1r, List.length_nil, List.length_cons, List.singleton_append, fadr_ptr, fadr_ip, Nat.zero_add, Nat.add_zero, reduceAdd, l2, ap1.opS, l9, hg, ap2.opS, bin_isS, la, lk, hm, hk, l5, h2, cont_h7, ap3.opS]
          rfl
        · unfold needR begF
          rw [hm, hk, cond_false, cond_true, h3]; rw [if_pos hg]; exact S3
      | false =>
        refine ⟨A2, o2, H2, ?_, ?_, O2.sub (List.sublist_append_left ..)⟩
        · refine cw_of fn22 (c := c22) rfl rfl rfl rfl ?_
          simp -implicitDefEqProofs only [c22, aW, ↓aP, makes, reduceLT, reduceEqDiff, reduceAdd, core_box, rt_b8 f, eq_b10 q, core_bsl, bslV_0, bslV_1r, List.length_nil, List.length_cons, List.singleton_append, fadr_ptr, fadr_ip, Nat.zero_add, Nat.add_zero, reduceAdd, l2, ap1.opS, l9, hg, ap2.opS, bin_isS, la, lk, hm, hk]
          rfl
        · unfold needR begF
          rw [hm, hk, cond_false, cond_false]; rw [if_pos hg, List.append_nil]; exact S2
  · skip
    have la : Ai.load H1 none (.ptr 1 1) = some (litS q.op) := own_load O1 (cs := q.cs) (t := 60) (by simp) rfl
    have lk : Ai.load H1 none (.ptr 1 3) = some (litI .i64 q.k) := own_load O1 (cs := q.cs) (t := 60) (by simp) rfl
    have l4 : Ai.load H1 none (.ptr 0 4) = some (memsA f.mems) := own_load O1 (cs := f.cs) (t := 29) (by simp) rfl
    have l5 : Ai.load H1 none (.ptr 0 5) = some (contsA f.conts) := own_load O1 (cs := f.cs) (t := 29) (by simp) rfl
    cases hm : isS q.op [109, 101, 109] with
    | true =>
      obtain ⟨m, h1, h2, h3⟩ := iadr_memsI (K.m hm)
      have hk : isS q.op [99, 111, 110, 116] = false := isS_ne hm rfl
      have hml := F.mres m (List.mem_of_getElem? h1)
      obtain ⟨A3, o3, H3, ap3, S3, O3⟩ := S1.append O1 (RowA.of m.resets none) (by omega)
      have la3 : Ai.load H3 none (.ptr 1 1) = some (litS q.op) := own_load O3 (cs := q.cs) (t := 60) (by simp) rfl
      refine ⟨A3, o3, H3, ?_, ?_, O3.sub (List.sublist_append_left ..)⟩
      · refine cw_of fn22 (c := c22) rfl rfl rfl rfl ?_
        simp -implicitDefEqProofs only [c22, aW, ↓aP, makes, reduceLT, reduceEqDiff, reduceAdd, core_box, rt_b8 f, eq_b10 q, core_bsl, bslV_0, bslV_1r, List.length_nil, List.length_cons, List.singleton_append, fadr_ptr, fadr_ip, Nat.zero_add, Nat.add_zero, reduceAdd, l2, ap1.opS, l9, hg, bin_isS, la, lk, hm, l4, h2, mem_h7, ap3.opS, la3, hk]
        rfl
      · unfold needR begF
        rw [hm, cond_true, h3]; rw [if_neg hg, List.append_nil]; exact S3
    | false =>
      cases hk : isS q.op [99, 111, 110, 116] with
      | true =>
        obtain ⟨m, h1, h2, h3⟩ := iadr_contsI (K.k hk)
        have hml := F.cres m (List.mem_of_getElem? h1)
        obtain ⟨A3, o3, H3, ap3, S3, O3⟩ := S1.append O1 (RowA.of m.resets none) (by omega)
        refine ⟨A3, o3, H3, ?_, ?_, O3.sub (List.sublist_append_left ..)⟩
        · refine cw_of fn22 (c := c22) rfl rfl rfl rfl ?_
          simp -implicitDefEqProofs only [c22, aW, ↓aP, makes, reduceLT, reduceEqDiff, reduceAdd, core_box, rt_b8 f, eq_b10 q, core_bsl, bslV_0, bslV_1r, List.length_nil, List.length_cons, List.singleton_append, fadr_ptr, fadr_ip, Nat.zero_add, Nat.add_zero, reduceAdd, l2, ap1.opS, l9, hg, bin_isS, la, lk, hm, hk, l5, h2, cont_h7, ap3.opS]
          rfl
        · unfold needR begF
          rw [hm, hk, cond_false, cond_true, h3]; rw [if_neg hg, List.append_nil]; exact S3
      | false =>
        refine ⟨A1, o1, H1, ?_, ?_, O1.sub (List.sublist_append_left ..)⟩
        · refine cw_of fn22 (c := c22) rfl rfl rfl rfl ?_
          simp -implicitDefEqProofs only [c22, aW, ↓aP, makes, reduceLT, reduceEqDiff, reduceAdd, core_box, rt_b8 f, eq_b10 q, core_bsl, bslV_0, bslV_1r, List.length_nil, List.length_cons, List.singleton_append, fadr_ptr, fadr_ip, Nat.zero_add, Nat.add_zero, reduceAdd, l2, ap1.opS, l9, hg, bin_isS, la, lk, hm, hk]
          rfl
        · unfold needR begF
          rw [hm, hk, cond_false, cond_false]; rw [if_neg hg, List.append_nil, List.append_nil]; exact S1
end
section
variable {call : CallF} {mt : MtF} {md : FuncId → Md}
structure GraphA (A : AV) (g : List (List Int)) : Prop where
  len : Ai.lenV A = some (litI .i64 g.length)
  el : ∀ (n : Nat) (row : List Int), g[n]? = some row → ∃ B, iadr 1 A (litI .i64 n) = some (.ip [B]) ∧ RowA B row
  sl : ∃ e xs c, A = .sl e xs c
theorem graph_cat {L : Rows} (h : L.ok) (c : Option Nat) : GraphA (catA L c) (L.map (·.2)) := by
  refine ⟨by rw [lenV_cat]; simp, fun n row hn => ?_, ⟨_, _, _, rfl⟩⟩
  rw [List.getElem?_map] at hn
  cases hp : L[n]? with
  | none => rw [hp] at hn; cases hn
  | some p =>
    rw [hp] at hn
    simp only [Option.map_some, sI] at hn
    refine ⟨p.1, by rw [iadr_cat, hp]; rfl, ?_⟩
    rw [← hn]; exact h p (List.mem_of_getElem? hp)
def needsP (g : List (List Int)) (i k : Int) : Bool := decide (0 ≤ i) && decide (i < g.length) && decide (0 ≤ k) && decide (k < g.length) && (g.getD i.toNat []).contains k
theorem needs7g_loop (A B : AV) (g : List (List Int)) (i : Nat) (k : Int) (row : List Int) (hi : iadr 1 A (litI .i64 i) = some (.ip [B])) (hB : RowA B row) (H : List AO) (hl : row.length ≤ 1000000) : ∀ (m n : Nat), m + n = row.length →
    loopW (codeW call mt md c41l0) [0, 1, 2, 7] [(0, A), (1, litI .i64 i), (2, litI .i64 k), (7, litI .i64 n)] H =
      some (if (row.drop n).contains k = true then (.ret, [(6, litB true)], H) else (EX.exit 0, [(0, A), (1, litI .i64 i), (2, litI .i64 k), (7, litI .i64 row.length), (32, litB false)], H))
  | 0, n, h => by
    have hn : n = row.length := by omega
    subst hn
    rw [if_neg (by simp)]
    refine loopW_out ?_ (by simp)
    simp -implicitDefEqProofs only [c41l0, aW, ↓aP, makes, reduceLT, reduceEqDiff, reduceAdd, hi, load_ip1, hB.lenV, Int.lt_irrefl]
  | m + 1, n, h => by
    have hn : n < row.length := by omega
    have hg : row[n]? = some row[n] := List.getElem?_eq_getElem hn
    have hlt : (n : Int) < row.length := by omega
    have hd : row.drop n = row[n] :: row.drop (n + 1) := List.drop_eq_getElem_cons hn
    rw [hd, List.contains_cons]
    by_cases h0 : row[n] = k
    · rw [if_pos (by simp [h0])]
      refine loopW_out ?_ (by simp)
      simp -implicitDefEqProofs only [c41l0, aW, ↓aP, makes, reduceLT, reduceEqDiff, reduceAdd, hi, load_ip1, hB.lenV, hB.iadr hg, hlt, h0]
    · have e : (k == row[n]) = false := by simp; exact fun h => h0 h.symm
      rw [e, Bool.false_or]
      refine loopW_round ?_ (needs7g_loop A B g i k row hi hB H hl m (n + 1) (by omega))
      have h0' : (row[n] == k) = false := by simp [h0]
      simp -implicitDefEqProofs only [c41l0, aW, ↓aP, makes, reduceLT, reduceEqDiff, reduceAdd, hi, load_ip1, hB.lenV, hB.iadr hg, hlt, h0', wrap1 (show n < 4611686018427387904 by omega)]
theorem needs7g_tells {A : AV} {g : List (List Int)} (hA : GraphA A g) (i k : Int) (hl : ∀ r ∈ g, r.length ≤ 1000000) (H : List AO) : cw 41 [A, litI .i64 i, litI .i64 k] H = some (.ret (litB (needsP g i k)), H) := by
  refine cw_of fn41 (c := c41) rfl rfl rfl rfl ?_
  by_cases h0 : i < 0
  · rw [show needsP g i k = false by unfold needsP; rw [decide_eq_false (show ¬ 0 ≤ i by omega)]; rfl]
    simp -implicitDefEqProofs only [c41, aW, ↓aP, makes, reduceLT, reduceEqDiff, reduceAdd, h0]
    rfl
  by_cases h1 : i ≥ (g.length : Int)
  · rw [show needsP g i k = false by unfold needsP; rw [decide_eq_false (show ¬ i < (g.length : Int) by omega), Bool.and_false]; rfl]
    simp -implicitDefEqProofs only [c41, aW, ↓aP, makes, reduceLT, reduceEqDiff, reduceAdd, h0, hA.len, h1]
    rfl
  by_cases h2 : k < 0
  · rw [show needsP g i k = false by unfold needsP; rw [decide_eq_false (show ¬ 0 ≤ k by omega), Bool.and_false]; rfl]
    simp -implicitDefEqProofs only [c41, aW, ↓aP, makes, reduceLT, reduceEqDiff, reduceAdd, h0, hA.len, h1, Int.not_le.mp h1, h2]
    rfl
  by_cases h3 : k ≥ (g.length : Int)
  · rw [show needsP g i k = false by unfold needsP; rw [decide_eq_false (show ¬ k < (g.length : Int) by omega), Bool.and_false]; rfl]
    simp -implicitDefEqProofs only [c41, aW, ↓aP, makes, reduceLT, reduceEqDiff, reduceAdd, h0, hA.len, h1, Int.not_le.mp h1, h2, h3]
    rfl
  obtain ⟨n, rfl⟩ : ∃ n : Nat, i = n := ⟨i.toNat, by omega⟩
  have hn : n < g.length := by omega
  have hg : g[n]? = some g[n] := List.getElem?_eq_getElem hn
  obtain ⟨B, hi, hB⟩ := hA.el n _ hg
  have e : needsP g n k = g[n].contains k := by
    unfold needsP
    rw [Int.toNat_natCast, List.getD_eq_getElem?_getD, hg, decide_eq_true (show (0 : Int) ≤ n by omega), decide_eq_true (show (n : Int) < g.length by omega), decide_eq_true (show 0 ≤ k by omega), decide_eq_true (show k < g.length by omega)]
    rfl
  have L := needs7g_loop (call := cw) (mt := lookM mtl) (md := mds) A B g n k g[n] hi hB H (hl _ (List.getElem_mem hn)) g[n].length 0 (by omega)
  rw [List.drop_zero, show ((0 : Nat) : Int) = 0 from rfl] at L
  rw [e]
  by_cases ha : g[n].contains k = true
  · rw [if_pos ha] at L
    rw [ha]
    simp -implicitDefEqProofs only [c41, aW, ↓aP, makes, reduceLT, reduceEqDiff, reduceAdd, h0, hA.len, h1, h2, h3, L]
    rfl
  · rw [if_neg ha] at L
    rw [Bool.eq_false_iff.mpr ha]
    simp -implicitDefEqProofs only [c41, aW, ↓aP, makes, reduceLT, reduceEqDiff, reduceAdd, h0, hA.len, h1, h2, h3, L]
    rfl
theorem needs7g_call {A : AV} {g : List (List Int)} (hA : GraphA A g) (i k : Int) (hl : ∀ r ∈ g, r.length ≤ 1000000) (H : List AO) (id : Nat) : callV cw mds 41 [A, litI .i64 i, litI .i64 k] H id = some (.val (litB (needsP g i k)) none) := by
  have h := needs7g_tells hA i k hl []
  obtain ⟨e, xs, c, rfl⟩ := hA.sl
  exact callV_pure rfl rfl h rfl
def NR (f : FlatV) : List (List Int) := setN (needR f) (List.replicate f.names.length []) f.eqs
theorem NR_len (f : FlatV) : (NR f).length = f.names.length := by unfold NR; rw [setN_len]; simp
theorem eqn_h0 (q : Eqn) : (List.drop 0 q.cs).head? = some (litI .i64 q.var) := rfl
theorem needR_len (f : FlatV) (F : FitsS f) (q : Eqn) (hq : q ∈ f.eqs) (K : KOk f q) : (needR f q).length ≤ 51 := by
  have h3 := F.args q hq
  have h4 := begF_len f F q K
  unfold needR
  simp only [List.length_append]
  split <;> simp <;> omega
theorem NR_60 (f : FlatV) (F : FitsS f) (G : GoodF f) : ∀ r ∈ NR f, r.length ≤ 60 := by
  refine setN_rows (needR f) (fun r => r.length ≤ 60) f.eqs _ (fun r hr => by rw [List.eq_of_mem_replicate hr]; simp) fun q hq => ?_
  have := needR_len f F q hq (G.kok q hq)
  omega
theorem needs27_loop (f : FlatV) (F : FitsS f) (G : GoodF f) : ∀ (m i : Nat) (L : Rows), m + i = f.eqs.length → L.length = f.names.length → L.ok →
    ∃ L' : Rows, loopW (codeW cw (lookM mtl) mds c27l0) [1, 3, 4] [(1, .ptr 0 0), (3, .own 1 0 f.names.length 1 (some f.names.length)), (4, litI .i64 i)] [.row f.cs 29, .row (L.map (·.1)) 23] =
      some (.exit 0, [(1, .ptr 0 0), (3, .own 1 0 f.names.length 1 (some f.names.length)), (4, litI .i64 f.eqs.length), (13, litB false)], [.row f.cs 29, .row (L'.map (·.1)) 23]) ∧ L'.length = f.names.length ∧ L'.ok ∧ L'.map (·.2) = setN (needR f) (L.map (·.2)) (f.eqs.drop i)
  | 0, i, L, h, hl, hok => by
    have hi : i = f.eqs.length := by omega
    subst hi
    have l3 : Ai.load [.row f.cs 29, .row (L.map (·.1)) 23] none (.ptr 0 3) = some (eqsA f.eqs) := rfl
    refine ⟨L, loopW_out ?_ (by simp), hl, hok, by rw [List.drop_length]; rfl⟩
    simp -implicitDefEqProofs only [c27l0, aW, ↓aP, makes, reduceLT, reduceEqDiff, reduceAdd, fadr_ptr, Nat.zero_add, l3, lenV_eqs, Int.lt_irrefl]
  | m + 1, i, L, h, hl, hok => by
    have hi : i < f.eqs.length := by omega
    have hg : f.eqs[i]? = some f.eqs[i] := List.getElem?_eq_getElem hi
    have hlt : (i : Int) < f.eqs.length := by omega
    have hmem := List.getElem_mem hi
    rw [List.drop_eq_getElem_cons hi, setN]
    generalize f.eqs[i] = q at hg hmem
    have hv := G.var q hmem
    obtain ⟨B, hB, hc⟩ := need22_call f F q (F.args q hmem) (G.kok q hmem)
    have l3 : Ai.load [.row f.cs 29, .row (L.map (·.1)) 23] none (.ptr 0 3) = some (eqsA f.eqs) := rfl
    have lA : Ai.load [.row f.cs 29, .row (L.map (·.1)) 23] (some 8) (.ptr 0 0) = some (.agg f.cs) := load_agg rfl rfl
    have lq := load_ipA (H := [.row f.cs 29, .row (L.map (·.1)) 23]) (show (Eqn.cs q).length = 10 from rfl)
    have ia := iadr_ownI (r := 1) (n := f.names.length) (c := some f.names.length) hv.1 hv.2
    obtain ⟨eB, xB, cB, eqB⟩ := hB.cases
    have st : storeAt [.row f.cs 29, .row (L.map (·.1)) 23] 1 (.ptr 1 q.var.toNat) B = some [.row f.cs 29, .row (List.map (·.1) (L.set q.var.toNat (B, needR f q))) 23] := by
      rw [store_ptr (r := 1) (cs := L.map (·.1)) (t := 23) rfl (by simp; omega) (by rw [eqB]; rfl) (by rw [eqB]; rfl)]
      rw [List.map_set]; rfl
    obtain ⟨L', L1, q1, q2, q3⟩ := needs27_loop f F G m (i + 1) (L.set q.var.toNat (B, needR f q)) (by omega) (by simpa using hl) (fun p hp => by
      rcases List.mem_or_eq_of_mem_set hp with hp | rfl
      · exact hok p hp
      · exact hB)
    refine ⟨L', loopW_round ?_ L1, q1, q2, by rw [q3, List.map_set]⟩
    simp -implicitDefEqProofs only [c27l0, aW, ↓aP, makes, reduceLT, reduceEqDiff, reduceAdd, fadr_ptr, fadr_ip, Nat.zero_add, l3, lenV_eqs, hlt, iadr_eqs, hg, eqn_h0, lA, lq, hc, show mds 22 = Md.pure from rfl, ia, st, wrap1 (show i < 4611686018427387904 by have := F.eqs; omega)]
theorem whole_rows {L : Rows} (h : L.ok) : (L.map (·.1)).all whole = true := by
  rw [List.all_eq_true]
  intro a ha
  obtain ⟨p, hp, rfl⟩ := List.mem_map.1 ha
  exact (h p hp).whole
theorem needs27_call (f : FlatV) (F : FitsS f) (hG : goodOk f = true) : ∃ A, GraphA A (NR f) ∧ ∀ H id, callV cw mds 27 [flatA f] H id = some (.val A none) := by
  have G := goodF_of hG
  have hn := F.names
  have l1 : Ai.load [.row f.cs 29] none (.ptr 0 1) = some (strs f.names) := rfl
  have hm1 := mksV_ok (id := 1) (e := 1) (bytes := 24) (z := [.sl 0 [] (some 0)]) (t := 23) (n := f.names.length) (by omega) (by omega)
  rw [reps_one] at hm1
  obtain ⟨L, L1, q1, q2, q3⟩ := needs27_loop f F G f.eqs.length 0 (List.replicate f.names.length (.sl 0 [] (some 0), [])) (by omega) (by simp) (fun p hp => by rw [List.eq_of_mem_replicate hp]; exact RowA.nil)
  rw [show ((0 : Nat) : Int) = 0 from rfl, List.map_replicate] at L1
  rw [List.drop_zero, List.map_replicate] at q3
  have hg := graph_cat q2 (some f.names.length)
  rw [q3] at hg
  refine ⟨_, hg, fun H id => ?_⟩
  have told : cw 27 [flatA f] [] = some (.ret (.own 1 0 f.names.length 1 (some f.names.length)), [.row f.cs 29, .row (L.map (·.1)) 23]) := by
    refine cw_of fn27 (c := c27) rfl rfl rfl rfl ?_
    simp -implicitDefEqProofs only [c27, aW, ↓aP, makes, reduceLT, reduceEqDiff, reduceAdd, core_box, flat_f, List.length_nil, List.length_cons, fadr_ptr, Nat.zero_add, l1, lenV_strs, hm1, L1]
    rfl
  have fz := frz_own (H := [.row f.cs 29, .row (L.map (·.1)) 23]) (r := 1) (n := f.names.length) (k := 14) (cap := some f.names.length) (cs := L.map (·.1)) (t := 23) rfl (by simp [q1]) (whole_rows q2)
  rw [List.take_of_length_le (by simp [q1]), List.map_map] at fz
  exact callV_frz rfl rfl told fz
end
section
variable {call : CallF} {mt : MtF} {md : FuncId → Md}
theorem mem_h5 (m : MemV) : (List.drop 5 m.cs).head? = some (litI .i64 m.next) := rfl
theorem mem_h6 (m : MemV) : (List.drop 6 m.cs).head? = some (litI .i64 m.guard) := rfl
theorem slope_h0 (m : SlopeV) : (List.drop 0 m.cs).head? = some (litI .i64 m.guard) := rfl
theorem slope_h1 (m : SlopeV) : (List.drop 1 m.cs).head? = some (litI .i64 m.var) := rfl
theorem cross_h0 (m : CrossV) : (List.drop 0 m.cs).head? = some (litI .i64 m.guard) := rfl
theorem cross_h1 (m : CrossV) : (List.drop 1 m.cs).head? = some (copsA m.ops) := rfl
theorem en0_loop (f : FlatV) (F : FitsS f) (v3 : AV) (d : List Obj1) : ∀ (k i : Nat) (A : AV) (l : List Int) (o : List Obj1) (H : List AO), k + i = f.mems.length → l.length ≤ 1000 * i + 1000 → SlX A l o → Own H (o ++ ((0, f.cs, 29) :: d)) →
    ∃ A' o' H', loopW (codeW cw (lookM mtl) mds c23l0) [1, 3, 4, 5] [(1, .ptr 0 0), (3, v3), (4, A), (5, litI .i64 i)] H =
      some (.exit 0, [(1, .ptr 0 0), (3, v3), (4, A'), (5, litI .i64 f.mems.length), (28, litB false)], H') ∧ SlX A' (l ++ (f.mems.drop i).flatMap memL) o' ∧ Own H' (o' ++ ((0, f.cs, 29) :: d))
  | 0, i, A, l, o, H, h, hl, S, O => by
    have hi : i = f.mems.length := by omega
    subst hi
    have l4 : Ai.load H none (.ptr 0 4) = some (memsA f.mems) := own_load O (cs := f.cs) (t := 29) (by simp) rfl
    refine ⟨A, o, H, loopW_out ?_ (by simp), by rw [List.drop_length]; simpa using S, O⟩
    simp -implicitDefEqProofs only [c23l0, aW, ↓aP, makes, reduceLT, reduceEqDiff, reduceAdd, fadr_ptr, Nat.zero_add, l4, lenV_mems, Int.lt_irrefl]
  | k + 1, i, A, l, o, H, h, hl, S, O => by
    have hi : i < f.mems.length := by omega
    have hg : f.mems[i]? = some f.mems[i] := List.getElem?_eq_getElem hi
    have hlt : (i : Int) < f.mems.length := by omega
    have hb := F.mems
    have hmm := F.mres _ (List.getElem_mem hi)
    rw [List.drop_eq_getElem_cons hi, List.flatMap_cons, ← List.append_assoc]
    generalize f.mems[i] = m at hg hmm
    have l4 : Ai.load H none (.ptr 0 4) = some (memsA f.mems) := own_load O (cs := f.cs) (t := 29) (by simp) rfl
    obtain ⟨A2, o2, H2, ap, S2, O2⟩ := S.append O (RowA.of [m.next, m.guard] (some 2)) (by simp; omega)
    have l42 : Ai.load H2 none (.ptr 0 4) = some (memsA f.mems) := own_load O2 (cs := f.cs) (t := 29) (by simp) rfl
    obtain ⟨A3, o3, H3, ap2, S3, O3⟩ := S2.append O2 (RowA.of m.resets none) (by simp; omega)
    obtain ⟨A', o', H', L, S', O'⟩ := en0_loop f F v3 d k (i + 1) A3 _ o3 H3 (by omega) (by simp; omega) S3 O3
    refine ⟨A', o', H', loopW_round ?_ L, by rw [List.append_assoc] at S'; rw [memL]; simp only [List.append_assoc] at S' ⊢; exact S', O'⟩
    simp -implicitDefEqProofs only [c23l0, aW, ↓aP, makes, reduceLT, reduceEqDiff, reduceAdd, fadr_ptr, fadr_ip, Nat.zero_add, Nat.add_zero, l4, l42, lenV_mems, hlt, iadr_mems, hg, mem_h5, mem_h6, mem_h7, core_bsl, bslV_2r, ap.tlS, ap2.tlS, wrap1 (show i < 4611686018427387904 by omega)]
theorem en1_loop (f : FlatV) (m : ContV) (c : Nat) (v3 v6 : AV) (hn : m.slopes.length ≤ 100) (d : List Obj1) (hc : (c, m.cs, 90) ∈ d) : ∀ (k i : Nat) (A : AV) (l : List Int) (o : List Obj1) (H : List AO), k + i = m.slopes.length → l.length + 2 * k ≤ 900000 → SlX A l o → Own H (o ++ d) →
    ∃ A' o' H', loopW (codeW cw (lookM mtl) mds c23l1) [1, 3, 4, 6, 7, 8] [(1, .ptr 0 0), (3, v3), (4, A), (6, v6), (7, .ptr c 0), (8, litI .i64 i)] H =
      some (.exit 4, [(1, .ptr 0 0), (3, v3), (4, A'), (6, v6), (7, .ptr c 0), (8, litI .i64 m.slopes.length), (79, litB false)], H') ∧ SlX A' (l ++ (m.slopes.drop i).flatMap slopeL) o' ∧ Own H' (o' ++ d)
  | 0, i, A, l, o, H, h, hl, S, O => by
    have hi : i = m.slopes.length := by omega
    subst hi
    have l8 : Ai.load H none (.ptr c 8) = some (slopesA m.slopes) := own_load O (cs := m.cs) (t := 90) (by simp [hc]) rfl
    refine ⟨A, o, H, loopW_out ?_ (by simp), by rw [List.drop_length]; simpa using S, O⟩
    simp -implicitDefEqProofs only [c23l1, aW, ↓aP, makes, reduceLT, reduceEqDiff, reduceAdd, fadr_ptr, Nat.zero_add, l8, lenV_slopes, Int.lt_irrefl]
  | k + 1, i, A, l, o, H, h, hl, S, O => by
    have hi : i < m.slopes.length := by omega
    have hg : m.slopes[i]? = some m.slopes[i] := List.getElem?_eq_getElem hi
    have hlt : (i : Int) < m.slopes.length := by omega
    rw [List.drop_eq_getElem_cons hi, List.flatMap_cons, ← List.append_assoc]
    generalize m.slopes[i] = s at hg
    have l8 : Ai.load H none (.ptr c 8) = some (slopesA m.slopes) := own_load O (cs := m.cs) (t := 90) (by simp [hc]) rfl
    obtain ⟨A2, o2, H2, ap, S2, O2⟩ := S.append O (RowA.of [s.guard, s.var] (some 2)) (by simp; omega)
    obtain ⟨A', o', H', L, S', O'⟩ := en1_loop f m c v3 v6 hn d hc k (i + 1) A2 _ o2 H2 (by omega) (by simp; omega) S2 O2
    refine ⟨A', o', H', loopW_round ?_ L, S', O'⟩
    simp -implicitDefEqProofs only [c23l1, aW, ↓aP, makes, reduceLT, reduceEqDiff, reduceAdd, fadr_ptr, fadr_ip, Nat.zero_add, Nat.add_zero, l8, lenV_slopes, hlt, iadr_slopes, hg, slope_h0, slope_h1, core_bsl, bslV_2r, ap.tlS, wrap1 (show i < 4611686018427387904 by omega)]
theorem en2_loop (f : FlatV) (F : FitsS f) (v3 : AV) (d : List Obj1) : ∀ (k i : Nat) (A : AV) (l : List Int) (o : List Obj1) (H : List AO), k + i = f.conts.length → l.length + 1000 * k ≤ 800000 → SlX A l o → Own H (o ++ ((0, f.cs, 29) :: d)) →
    ∃ A' o' H', loopW (codeW cw (lookM mtl) mds c23l2) [1, 3, 4, 6] [(1, .ptr 0 0), (3, v3), (4, A), (6, litI .i64 i)] H =
      some (.exit 2, [(1, .ptr 0 0), (3, v3), (4, A'), (6, litI .i64 f.conts.length), (57, litB false)], H') ∧ SlX A' (l ++ (f.conts.drop i).flatMap contL) o' ∧ Own H' (o' ++ ((0, f.cs, 29) :: d))
  | 0, i, A, l, o, H, h, hl, S, O => by
    have hi : i = f.conts.length := by omega
    subst hi
    have l5 : Ai.load H none (.ptr 0 5) = some (contsA f.conts) := own_load O (cs := f.cs) (t := 29) (by simp) rfl
    refine ⟨A, o, H, loopW_out ?_ (by simp), by rw [List.drop_length]; simpa using S, O⟩
    simp -implicitDefEqProofs only [c23l2, aW, ↓aP, makes, reduceLT, reduceEqDiff, reduceAdd, fadr_ptr, Nat.zero_add, l5, lenV_conts, Int.lt_irrefl]
  | k + 1, i, A, l, o, H, h, hl, S, O => by
    have hi : i < f.conts.length := by omega
    have hg : f.conts[i]? = some f.conts[i] := List.getElem?_eq_getElem hi
    have hlt : (i : Int) < f.conts.length := by omega
    have hb := F.conts
    have hmm := F.cres _ (List.getElem_mem hi)
    have hss := F.slopes _ (List.getElem_mem hi)
    rw [List.drop_eq_getElem_cons hi, List.flatMap_cons]
    generalize f.conts[i] = m at hg hmm hss
    have l5 : Ai.load H none (.ptr 0 5) = some (contsA f.conts) := own_load O (cs := f.cs) (t := 29) (by simp) rfl
    have hA := load_ipA (H := H) (show (ContV.cs m).length = 9 from rfl)
    have O1 := own_newM O m.cs 90
    obtain ⟨A2, o2, H2, ap, S2, O2⟩ := S.append O1 (RowA.of [m.var, m.guard] (some 2)) (by simp; omega)
    obtain ⟨A3, o3, H3, ap2, S3, O3⟩ := S2.append O2 (RowA.of m.resets none) (by simp; omega)
    have L5 : Ai.load (H ++ [.row m.cs 90]) none (.ptr H.length 5) = some (litI .i64 m.var) := own_load O1 (cs := m.cs) (t := 90) (by simp) rfl
    have L6 : Ai.load (H ++ [.row m.cs 90]) none (.ptr H.length 6) = some (litI .i64 m.guard) := own_load O1 (cs := m.cs) (t := 90) (by simp) rfl
    have L7 : Ai.load (H ++ [.row m.cs 90]) none (.ptr H.length 7) = some (rowC m.resets none) := own_load O1 (cs := m.cs) (t := 90) (by simp) rfl
    have L72 : Ai.load H2 none (.ptr H.length 7) = some (rowC m.resets none) := own_load O2 (cs := m.cs) (t := 90) (by simp) rfl
    obtain ⟨A4, o4, H4, Ls, S4, O4⟩ := en1_loop f m H.length v3 (litI .i64 i) (by omega) _ (List.mem_cons_self ..) m.slopes.length 0 A3 _ o3 H3 (by omega) (by simp; omega) S3 O3
    rw [show ((0 : Nat) : Int) = 0 from rfl] at Ls
    rw [List.drop_zero] at S4
    have hsl : (m.slopes.flatMap slopeL).length = 2 * m.slopes.length := by
      clear hss S4 Ls
      induction m.slopes with
      | nil => rfl
      | cons s r ih => simp [slopeL] at ih ⊢; omega
    obtain ⟨A', o', H', L, S', O'⟩ := en2_loop f F v3 d k (i + 1) A4 _ o4 H4 (by omega) (by simp at hsl ⊢; omega) S4 (own_drop O4)
    refine ⟨A', o', H', loopW_round ?_ L, ?_, O'⟩
    · simp -implicitDefEqProofs only [c23l2, aW, ↓aP, makes, reduceLT, reduceEqDiff, reduceAdd, fadr_ptr, fadr_ip, Nat.zero_add, Nat.add_zero, l5, lenV_conts, hlt, iadr_conts, hg, hA, cont_st, L5, L6, L7, L72, core_bsl, bslV_2r, ap.tlS, ap2.tlS, Ls, wrap1 (show i < 4611686018427387904 by omega)]
    · rw [contL]
      simp only [List.append_assoc] at S' ⊢
      exact S'
theorem en3_loop (f : FlatV) (x : Nat) (m : CrossV) (hx : f.cross[x]? = some m) (v3 : AV) (hn : m.ops.length ≤ 100) (ha : ∀ o ∈ m.ops, isVS o = true → o.args ≠ []) (d : List Obj1) : ∀ (k i : Nat) (A : AV) (l : List Int) (o : List Obj1) (H : List AO), k + i = m.ops.length → l.length + 2 * k ≤ 900000 → SlX A l o → Own H (o ++ ((0, f.cs, 29) :: d)) →
    ∃ A' o' H', loopW (codeW cw (lookM mtl) mds c23l3) [1, 3, 4, 9, 10] [(1, .ptr 0 0), (3, v3), (4, A), (9, litI .i64 x), (10, litI .i64 i)] H =
      some (.exit 8, [(1, .ptr 0 0), (3, v3), (4, A'), (9, litI .i64 x), (10, litI .i64 m.ops.length), (121, litB false)], H') ∧ SlX A' (l ++ (m.ops.drop i).flatMap opL) o' ∧ Own H' (o' ++ ((0, f.cs, 29) :: d))
  | 0, i, A, l, o, H, h, hl, S, O => by
    have hi : i = m.ops.length := by omega
    subst hi
    have l6 : Ai.load H none (.ptr 0 6) = some (crossA f.cross) := own_load O (cs := f.cs) (t := 29) (by simp) rfl
    refine ⟨A, o, H, loopW_out ?_ (by simp), by rw [List.drop_length]; simpa using S, O⟩
    simp -implicitDefEqProofs only [c23l3, aW, ↓aP, makes, reduceLT, reduceEqDiff, reduceAdd, fadr_ptr, fadr_ip, Nat.zero_add, l6, iadr_cross, hx, cross_h1, lenV_cops, Int.lt_irrefl]
  | k + 1, i, A, l, o, H, h, hl, S, O => by
    have hi : i < m.ops.length := by omega
    have hg : m.ops[i]? = some m.ops[i] := List.getElem?_eq_getElem hi
    have hlt : (i : Int) < m.ops.length := by omega
    have haa := ha _ (List.getElem_mem hi)
    rw [List.drop_eq_getElem_cons hi, List.flatMap_cons, ← List.append_assoc]
    generalize m.ops[i] = c at hg haa
    have l6 : Ai.load H none (.ptr 0 6) = some (crossA f.cross) := own_load O (cs := f.cs) (t := 29) (by simp) rfl
    have hA := load_ipA (H := H) (show (COpV.cs c).length = 2 from rfl)
    have O1 := own_newM O c.cs 94
    have L0 : Ai.load (H ++ [.row c.cs 94]) none (.ptr H.length 0) = some (litS c.op) := own_load O1 (cs := c.cs) (t := 94) (by simp) rfl
    have L1 : Ai.load (H ++ [.row c.cs 94]) none (.ptr H.length 1) = some (rowC c.args none) := own_load O1 (cs := c.cs) (t := 94) (by simp) rfl
    have hw := wrap1 (show i < 4611686018427387904 by omega)
    cases hv : isVS c with
    | false =>
      obtain ⟨A', o', H', L, S', O'⟩ := en3_loop f x m hx v3 hn ha d k (i + 1) A l o _ (by omega) (by omega) S (own_drop O1)
      refine ⟨A', o', H', loopW_round ?_ L, by rw [show opL c = [] by simp [opL, hv], List.append_nil]; exact S', O'⟩
      unfold isVS at hv
      rw [Bool.or_eq_false_iff] at hv
      simp -implicitDefEqProofs only [c23l3, aW, ↓aP, makes, reduceLT, reduceEqDiff, reduceAdd, fadr_ptr, fadr_ip, Nat.zero_add, Nat.add_zero, l6, iadr_cross, hx, cross_h1, lenV_cops, hlt, iadr_cops, hg, hA, cop_st, L0, bin_isS, hv.1, hv.2, hw]
    | true =>
      obtain ⟨A2, o2, H2, ap, S2, O2⟩ := S.append O1 (RowA.of [c.args.headD 0] (some 1)) (by simp; omega)
      obtain ⟨A', o', H', L, S', O'⟩ := en3_loop f x m hx v3 hn ha d k (i + 1) A2 _ o2 _ (by omega) (by simp; omega) S2 (own_drop O2)
      refine ⟨A', o', H', loopW_round ?_ L, by rw [show opL c = [c.args.headD 0] by simp [opL, hv]]; exact S', O'⟩
      have hh := head_row (haa hv)
      unfold isVS at hv
      cases h1 : isS c.op [118, 97, 114] with
      | true => simp -implicitDefEqProofs only [c23l3, aW, ↓aP, makes, reduceLT, reduceEqDiff, reduceAdd, fadr_ptr, fadr_ip, Nat.zero_add, Nat.add_zero, l6, iadr_cross, hx, cross_h1, lenV_cops, hlt, iadr_cops, hg, hA, cop_st, L0, L1, hh, load_ip1, core_bsl, bslV_1r, ap.opS, bin_isS, h1, hw]
      | false =>
        rw [h1, Bool.false_or] at hv
        simp -implicitDefEqProofs only [c23l3, aW, ↓aP, makes, reduceLT, reduceEqDiff, reduceAdd, fadr_ptr, fadr_ip, Nat.zero_add, Nat.add_zero, l6, iadr_cross, hx, cross_h1, lenV_cops, hlt, iadr_cops, hg, hA, cop_st, L0, L1, hh, load_ip1, core_bsl, bslV_1r, ap.opS, bin_isS, h1, hv, hw]
theorem en4_loop (f : FlatV) (F : FitsS f) (hv : ∀ m ∈ f.cross, ∀ o ∈ m.ops, isVS o = true → o.args ≠ []) (v3 : AV) (d : List Obj1) : ∀ (k i : Nat) (A : AV) (l : List Int) (o : List Obj1) (H : List AO), k + i = f.cross.length → l.length + 1000 * k ≤ 800000 → SlX A l o → Own H (o ++ ((0, f.cs, 29) :: d)) →
    ∃ A' o' H', loopW (codeW cw (lookM mtl) mds c23l4) [1, 3, 4, 9] [(1, .ptr 0 0), (3, v3), (4, A), (9, litI .i64 i)] H =
      some (.exit 6, [(1, .ptr 0 0), (3, v3), (4, A'), (9, litI .i64 f.cross.length), (101, litB false)], H') ∧ SlX A' (l ++ (f.cross.drop i).flatMap crossL) o' ∧ Own H' (o' ++ ((0, f.cs, 29) :: d))
  | 0, i, A, l, o, H, h, hl, S, O => by
    have hi : i = f.cross.length := by omega
    subst hi
    have l6 : Ai.load H none (.ptr 0 6) = some (crossA f.cross) := own_load O (cs := f.cs) (t := 29) (by simp) rfl
    refine ⟨A, o, H, loopW_out ?_ (by simp), by rw [List.drop_length]; simpa using S, O⟩
    simp -implicitDefEqProofs only [c23l4, aW, ↓aP, makes, reduceLT, reduceEqDiff, reduceAdd, fadr_ptr, Nat.zero_add, l6, lenV_cross, Int.lt_irrefl]
  | k + 1, i, A, l, o, H, h, hl, S, O => by
    have hi : i < f.cross.length := by omega
    have hg : f.cross[i]? = some f.cross[i] := List.getElem?_eq_getElem hi
    have hlt : (i : Int) < f.cross.length := by omega
    have hb := F.cross
    have hmm := F.ops _ (List.getElem_mem hi)
    have hvv := hv _ (List.getElem_mem hi)
    rw [List.drop_eq_getElem_cons hi, List.flatMap_cons]
    generalize f.cross[i] = m at hg hmm hvv
    have l6 : Ai.load H none (.ptr 0 6) = some (crossA f.cross) := own_load O (cs := f.cs) (t := 29) (by simp) rfl
    obtain ⟨A2, o2, H2, ap, S2, O2⟩ := S.append O (RowA.of [m.guard] (some 1)) (by simp; omega)
    obtain ⟨A4, o4, H4, Ls, S4, O4⟩ := en3_loop f i m hg v3 (by omega) hvv d m.ops.length 0 A2 _ o2 H2 (by omega) (by simp; omega) S2 O2
    rw [show ((0 : Nat) : Int) = 0 from rfl] at Ls
    rw [List.drop_zero] at S4
    have hsl := opL_short m.ops
    obtain ⟨A', o', H', L, S', O'⟩ := en4_loop f F hv v3 d k (i + 1) A4 _ o4 H4 (by omega) (by simp at hsl ⊢; omega) S4 O4
    refine ⟨A', o', H', loopW_round ?_ L, ?_, O'⟩
    · simp -implicitDefEqProofs only [c23l4, aW, ↓aP, makes, reduceLT, reduceEqDiff, reduceAdd, fadr_ptr, fadr_ip, Nat.zero_add, Nat.add_zero, l6, lenV_cross, hlt, iadr_cross, hg, cross_h0, core_bsl, bslV_1r, ap.opS, Ls, wrap1 (show i < 4611686018427387904 by omega)]
    · rw [crossL]
      simp only [List.append_assoc, List.singleton_append, List.cons_append] at S' ⊢
      exact S'
def endB : List Bool → List Int → List Bool
  | bs_, [] => bs_
  | bs_, x :: r => endB (if 0 ≤ x then bs_.set x.toNat true else bs_) r
theorem endB_len : ∀ (l : List Int) (bs_ : List Bool), (endB bs_ l).length = bs_.length
  | [], _ => rfl
  | x :: r, bs_ => by rw [endB, endB_len r]; split <;> simp
theorem en5_loop (n : Nat) (d : List Obj1) (A : AV) (l : List Int) (o : List Obj1) (S : SlX A l o) (hl : l.length ≤ 1000000) (hr : ∀ x ∈ l, x < (n : Int)) : ∀ (k i : Nat) (bs_ : List Bool) (H : List AO), k + i = l.length → bs_.length = n → Own H (o ++ ((1, cellsB bs_, 4) :: d)) →
    ∃ H', loopW (codeW cw (lookM mtl) mds c23l5) [3, 4, 12] [(3, .own 1 0 n 1 (some n)), (4, A), (12, litI .i64 i)] H =
      some (.exit 10, [(3, .own 1 0 n 1 (some n)), (4, A), (12, litI .i64 l.length), (151, litB false)], H') ∧ Own H' (o ++ ((1, cellsB (endB bs_ (l.drop i)), 4) :: d))
  | 0, i, bs_, H, h, hb, O => by
    have hi : i = l.length := by omega
    subst hi
    refine ⟨H, loopW_out ?_ (by simp), by rw [List.drop_length]; exact O⟩
    simp -implicitDefEqProofs only [c23l5, aW, ↓aP, makes, reduceLT, reduceEqDiff, reduceAdd, S.lenV, Int.lt_irrefl]
  | k + 1, i, bs_, H, h, hb, O => by
    have hi : i < l.length := by omega
    have hg : l[i]? = some l[i] := List.getElem?_eq_getElem hi
    have hlt : (i : Int) < l.length := by omega
    have hx := hr _ (List.getElem_mem hi)
    obtain ⟨c, hc1, hc2⟩ := (reads_slx S O).el i _ hg
    rw [List.drop_eq_getElem_cons hi, endB]
    generalize l[i] = x at hg hx hc2
    have hw := wrap1 (show i < 4611686018427387904 by omega)
    by_cases h0 : 0 ≤ x
    · rw [if_pos h0]
      have ia := iadr_ownI (r := 1) (n := n) (c := some n) h0 hx
      have O1 : Own H ((1, cellsB bs_, 4) :: (o ++ d)) := O.perm List.perm_middle
      have st : storeAt H 1 (.ptr 1 x.toNat) (litB true) = some (setL H 1 (.row (cellsB (bs_.set x.toNat true)) 4)) := by
        rw [store_ptr O1.head (by simp [cellsB]; omega) rfl rfl]
        simp [cellsB]
      have O2 := (O1.set (cellsB (bs_.set x.toNat true)) 4).perm List.perm_middle.symm
      obtain ⟨H', L, O'⟩ := en5_loop n d A l o S hl hr k (i + 1) _ _ (by omega) (by simpa using hb) O2
      refine ⟨H', loopW_round ?_ L, O'⟩
      simp -implicitDefEqProofs only [c23l5, aW, ↓aP, makes, reduceLT, reduceEqDiff, reduceAdd, S.lenV, hlt, hc1, hc2, h0, ia, st, hw]
    · rw [if_neg h0]
      obtain ⟨H', L, O'⟩ := en5_loop n d A l o S hl hr k (i + 1) bs_ H (by omega) hb O
      refine ⟨H', loopW_round ?_ L, O'⟩
      simp -implicitDefEqProofs only [c23l5, aW, ↓aP, makes, reduceLT, reduceEqDiff, reduceAdd, S.lenV, hlt, hc1, hc2, h0, hw]
def endF (f : FlatV) : List Bool := endB (List.replicate f.names.length false) (endL f)
theorem end_call (f : FlatV) (F : FitsS f) (hG : goodOk f = true) (H : List AO) (id : Nat) : callV cw mds 23 [flatA f] H id = some (.val (boolsC (endF f) (some f.names.length)) none) := by
  have G := goodF_of hG
  have hn := F.names
  have e1 := F.mems; have e2 := F.conts; have e3 := F.cross; have e4 := F.outs; have e5 := F.again
  have hel := endL_len f F
  have l1 : Ai.load [.row f.cs 29] none (.ptr 0 1) = some (strs f.names) := rfl
  have hm1 := mksV_ok (id := 1) (e := 1) (bytes := 1) (z := [litB false]) (t := 4) (n := f.names.length) (by omega) (by omega)
  rw [reps_one] at hm1
  have hz : cellsB (List.replicate f.names.length false) = List.replicate f.names.length (litB false) := by simp [cellsB]
  have O0 : Own [AO.row f.cs 29, .row (List.replicate f.names.length (litB false)) 4] ([] ++ [(0, f.cs, 29), (1, cellsB (List.replicate f.names.length false), 4)]) := by
    rw [hz]
    refine ⟨by simp, fun x hx => ?_⟩
    simp only [List.nil_append, List.mem_cons, List.not_mem_nil, or_false] at hx
    rcases hx with rfl | rfl <;> rfl
  have l2 : Ai.load [.row f.cs 29, .row (List.replicate f.names.length (litB false)) 4] none (.ptr 0 2) = some (rowC f.outs none) := rfl
  have l7 : Ai.load [.row f.cs 29, .row (List.replicate f.names.length (litB false)) 4] none (.ptr 0 7) = some (rowC f.again none) := rfl
  obtain ⟨A1, o1, H1, ap1, S1, O1⟩ := (SlX.nil 0).append O0 (RowA.of f.outs none) (by simp; omega)
  have l71 : Ai.load H1 none (.ptr 0 7) = some (rowC f.again none) := own_load O1 (cs := f.cs) (t := 29) (by simp) rfl
  obtain ⟨A2, o2, H2, ap2, S2, O2⟩ := S1.append O1 (RowA.of f.again none) (by simp; omega)
  simp only [List.length_cons, List.length_nil, Nat.zero_add, reduceAdd] at ap1
  rw [List.nil_append] at S2
  obtain ⟨A3, o3, H3, L1, S3, O3⟩ := en0_loop f F (.own 1 0 f.names.length 1 (some f.names.length)) _ f.mems.length 0 A2 _ o2 H2 (by omega) (by simp; omega) S2 O2
  have k1 : (f.mems.flatMap memL).length ≤ 100 * f.mems.length := by
    have hm := F.mres
    generalize f.mems = ms at hm
    induction ms with
    | nil => simp
    | cons m r ih =>
      have h1 := hm m (List.mem_cons_self ..)
      have h2 := ih fun x hx => hm x (List.mem_cons_of_mem _ hx)
      simp only [List.flatMap_cons, List.length_append, memL, List.length_cons, List.length_nil] at h2 ⊢; omega
  have k2 : (f.conts.flatMap contL).length ≤ 300 * f.conts.length := by
    have hm := F.cres
    have hs := F.slopes
    generalize f.conts = ms at hm hs
    induction ms with
    | nil => simp
    | cons m r ih =>
      have h1 := hm m (List.mem_cons_self ..)
      have h3 := hs m (List.mem_cons_self ..)
      have h2 := ih (fun x hx => hm x (List.mem_cons_of_mem _ hx)) (fun x hx => hs x (List.mem_cons_of_mem _ hx))
      have hsl : (m.slopes.flatMap slopeL).length = 2 * m.slopes.length := by
        clear h1 h3 h2 hm hs ih
        induction m.slopes with
        | nil => rfl
        | cons s r ih => simp [slopeL] at ih ⊢; omega
      simp only [List.flatMap_cons, List.length_append, contL, List.length_cons, List.length_nil, hsl] at h2 ⊢; omega
  obtain ⟨A4, o4, H4, L2, S4, O4⟩ := en2_loop f F (.own 1 0 f.names.length 1 (some f.names.length)) _ f.conts.length 0 A3 _ o3 H3 (by omega) (by rw [List.drop_zero, List.length_append, List.length_append]; omega) S3 O3
  obtain ⟨A5, o5, H5, L3, S5, O5⟩ := en4_loop f F (fun m hm o ho hv => by obtain ⟨x, r, e, _⟩ := G.vs m hm o ho hv; rw [e]; simp) (.own 1 0 f.names.length 1 (some f.names.length)) _ f.cross.length 0 A4 _ o4 H4 (by omega) (by rw [List.drop_zero, List.drop_zero, List.length_append, List.length_append, List.length_append]; omega) S4 O4
  rw [show ((0 : Nat) : Int) = 0 from rfl] at L1 L2 L3
  rw [List.drop_zero, List.drop_zero, List.drop_zero] at S5
  change SlX A5 (endL f) o5 at S5
  have O5' : Own H5 (o5 ++ ((1, cellsB (List.replicate f.names.length false), 4) :: [(0, f.cs, 29)])) := O5.perm (List.Perm.append_left _ (List.Perm.swap ..))
  obtain ⟨H6, L4, O6⟩ := en5_loop f.names.length _ A5 (endL f) o5 S5 hel (endL_rng f G) (endL f).length 0 _ H5 (by omega) (by simp) O5'
  rw [show ((0 : Nat) : Int) = 0 from rfl] at L4
  rw [List.drop_zero] at O6
  change Own H6 (o5 ++ ((1, cellsB (endF f), 4) :: [(0, f.cs, 29)])) at O6
  have told : cw 23 [flatA f] [] = some (.ret (.own 1 0 f.names.length 1 (some f.names.length)), H6) := by
    refine cw_of fn23 (c := c23) rfl rfl rfl rfl ?_
    simp -implicitDefEqProofs only [c23, aW, ↓aP, makes, reduceLT, reduceEqDiff, reduceAdd, core_box, flat_f, List.length_nil, List.length_cons, fadr_ptr, Nat.zero_add, reduceAdd, l1, lenV_strs, hm1, l2, l7, l71, ap1.tlS, ap2.tlS, L1, L2, L3, L4]
    rfl
  have hb : (cellsB (endF f)).all whole = true := by
    rw [List.all_eq_true]; intro a ha
    obtain ⟨b, _, rfl⟩ := List.mem_map.1 ha; rfl
  have hlen : (cellsB (endF f)).length = f.names.length := by simp [cellsB, endF, endB_len]
  have fz := frz_own (H := H6) (r := 1) (n := f.names.length) (k := 14) (cap := some f.names.length) (cs := cellsB (endF f)) (t := 4) (O6.get (1, cellsB (endF f), 4) (by simp)) (by omega) hb
  rw [List.take_of_length_le (by omega)] at fz
  have e : List.map (fun a => [a]) (cellsB (endF f)) = (endF f).map fun b => [litB b] := by simp [cellsB]
  rw [e] at fz
  exact callV_frz rfl rfl told fz
end
section
variable {call : CallF} {mt : MtF} {md : FuncId → Md}
theorem place40_loop (B : AV) (r : List Int) (hB : RowA B r) (v : Int) (H : List AO) (hl : r.length ≤ 1000000) : ∀ (m n : Nat), m + n = r.length →
    loopW (codeW call mt md c40l0) [0, 1, 5] [(0, B), (1, litI .i64 v), (5, litI .i64 n)] H =
      some (if placeF v n (r.drop n) = -1 then (EX.exit 0, [(0, B), (1, litI .i64 v), (5, litI .i64 r.length), (9, litB false)], H) else (.ret, [(4, litI .i64 (placeF v n (r.drop n)))], H))
  | 0, n, h => by
    have hn : n = r.length := by omega
    subst hn
    rw [if_pos (by simp [placeF])]
    refine loopW_out ?_ (by simp)
    simp -implicitDefEqProofs only [c40l0, aW, ↓aP, makes, reduceLT, reduceEqDiff, reduceAdd, hB.lenV, Int.lt_irrefl]
  | m + 1, n, h => by
    have hn : n < r.length := by omega
    have hg : r[n]? = some r[n] := List.getElem?_eq_getElem hn
    have hlt : (n : Int) < r.length := by omega
    have hd : r.drop n = r[n] :: r.drop (n + 1) := List.drop_eq_getElem_cons hn
    rw [hd, placeF]
    by_cases h0 : r[n] = v
    · rw [if_pos h0, if_neg (by omega)]
      refine loopW_out ?_ (by simp)
      simp -implicitDefEqProofs only [c40l0, aW, ↓aP, makes, reduceLT, reduceEqDiff, reduceAdd, hB.lenV, hB.iadr hg, hlt, h0]
    · rw [if_neg h0]
      refine loopW_round ?_ (place40_loop B r hB v H hl m (n + 1) (by omega))
      have h0' : (r[n] == v) = false := by simp [h0]
      simp -implicitDefEqProofs only [c40l0, aW, ↓aP, makes, reduceLT, reduceEqDiff, reduceAdd, hB.lenV, hB.iadr hg, hlt, h0', wrap1 (show n < 4611686018427387904 by omega)]
theorem place40_call {B : AV} {r : List Int} (hB : RowA B r) (v : Int) (hl : r.length ≤ 1000000) (H : List AO) (id : Nat) : callV cw mds 40 [B, litI .i64 v] H id = some (.val (litI .i64 (placeI r v)) none) := by
  have h : cw 40 [B, litI .i64 v] [] = some (.ret (litI .i64 (placeI r v)), []) := by
    refine cw_of fn40 (c := c40) rfl rfl rfl rfl ?_
    have L := place40_loop (call := cw) (mt := lookM mtl) (md := mds) B r hB v [] hl r.length 0 (by omega)
    rw [List.drop_zero, show ((0 : Nat) : Int) = 0 from rfl] at L
    by_cases ha : placeF v 0 r = -1
    · rw [if_pos ha] at L
      rw [show placeI r v = -1 from ha]
      simp -implicitDefEqProofs only [c40, aW, ↓aP, makes, reduceLT, reduceEqDiff, reduceAdd, L]
      rfl
    · rw [if_neg ha] at L
      simp -implicitDefEqProofs only [c40, aW, ↓aP, makes, reduceLT, reduceEqDiff, reduceAdd, L]
      rfl
  obtain ⟨e, xs, c, rfl⟩ := hB.cases
  exact callV_pure rfl rfl h rfl
def maxR (g : List (List Int)) (v : Int) : Nat → List Int → Int → Int
  | _, [], acc => acc
  | i, o :: r, acc => maxR g v (i + 1) r (if needsP g o v = true then max acc i else acc)
def lastR (f : FlatV) (ord : List Int) (v : Nat) : Int := if (endF f).getD v false = true then ord.length else maxR (NR f) v 0 ord (placeI ord v)
def lastsR (f : FlatV) (ord : List Int) : List Int := (List.range f.names.length).map (lastR f ord)
theorem la0_loop (f : FlatV) (A B E : AV) (g : List (List Int)) (hA : GraphA A g) (hg6 : ∀ r ∈ g, r.length ≤ 1000000) (ord : List Int) (hB : RowA B ord) (hl : ord.length ≤ 1000000) (n v : Nat) (hv : v < n) : ∀ (m i : Nat) (out : List Int) (acc : Int), m + i = ord.length → out.length = n → out.getD v 0 = acc →
    loopW (codeW cw (lookM mtl) mds c21l0) [1, 2, 5, 6, 7, 8, 9] [(1, B), (2, .ptr 0 0), (5, A), (6, E), (7, .own 1 0 n 1 (some n)), (8, litI .i64 v), (9, litI .i64 i)] [.row f.cs 29, .row (cellsI out) 3] =
      some (.exit 2, [(1, B), (2, .ptr 0 0), (5, A), (6, E), (7, .own 1 0 n 1 (some n)), (8, litI .i64 v), (9, litI .i64 ord.length), (34, litB false)], [.row f.cs 29, .row (cellsI (out.set v (maxR g v i (ord.drop i) acc))) 3])
  | 0, i, out, acc, h, ho, ha => by
    have hi : i = ord.length := by omega
    subst hi
    rw [List.drop_length, maxR, ← ha]
    rw [show out.set v (out.getD v 0) = out by
      rw [List.getD_eq_getElem?_getD, List.getElem?_eq_getElem (by omega)]; exact List.set_getElem_self _]
    refine loopW_out ?_ (by simp)
    simp -implicitDefEqProofs only [c21l0, aW, ↓aP, makes, reduceLT, reduceEqDiff, reduceAdd, hB.lenV, Int.lt_irrefl]
  | m + 1, i, out, acc, h, ho, ha => by
    have hi : i < ord.length := by omega
    have hg : ord[i]? = some ord[i] := List.getElem?_eq_getElem hi
    have hlt : (i : Int) < ord.length := by omega
    rw [List.drop_eq_getElem_cons hi, maxR]
    generalize ord[i] = o at hg
    have hc := needs7g_call hA o v hg6
    have hw := wrap1 (show i < 4611686018427387904 by omega)
    cases hnp : needsP g o v with
    | false =>
      rw [hnp] at hc
      rw [if_neg (by simp)]
      refine loopW_round ?_ (la0_loop f A B E g hA hg6 ord hB hl n v hv m (i + 1) out acc (by omega) ho ha)
      simp -implicitDefEqProofs only [c21l0, aW, ↓aP, makes, reduceLT, reduceEqDiff, reduceAdd, hB.lenV, hlt, hB.iadr hg, hc, hw]
    | true =>
      rw [hnp] at hc
      rw [if_pos rfl]
      have ia := iadr_ownI (r := 1) (n := n) (c := some n) (x := (v : Int)) (by omega) (by omega)
      rw [Int.toNat_natCast] at ia
      have lo : Ai.load [.row f.cs 29, .row (cellsI out) 3] none (.ptr 1 v) = some (litI .i64 acc) := by
        rw [load_ptr (r := 1) (cs := cellsI out) (t := 3) rfl, cellsI_at, Ord.getI (by omega), ha]; rfl
      have st : storeAt [.row f.cs 29, .row (cellsI out) 3] 1 (.ptr 1 v) (litI .i64 (max acc i)) = some [.row f.cs 29, .row (cellsI (out.set v (max acc i))) 3] := by
        rw [store_ptr (r := 1) (cs := cellsI out) (t := 3) rfl (by rw [cellsI_len]; omega) rfl rfl]
        have e : (cellsI out).set v (litI .i64 (max acc i)) = cellsI (out.set v (max acc i)) := by simp [cellsI]
        rw [e]; rfl
      have ih := la0_loop f A B E g hA hg6 ord hB hl n v hv m (i + 1) (out.set v (max acc i)) (max acc i) (by omega) (by simpa using ho) (by rw [List.getD_eq_getElem?_getD, List.getElem?_set_self (by omega)]; rfl)
      rw [List.set_set] at ih
      refine loopW_round ?_ ih
      simp -implicitDefEqProofs only [c21l0, aW, ↓aP, makes, reduceLT, reduceEqDiff, reduceAdd, hB.lenV, hlt, hB.iadr hg, hc, ia, lo, core_maxi2 49 50 .i64 acc i, st, hw]
theorem la1_loop (f : FlatV) (A B : AV) (hA : GraphA A (NR f)) (hg6 : ∀ r ∈ NR f, r.length ≤ 1000000) (hnn : f.names.length ≤ 1000000) (ord : List Int) (hB : RowA B ord) (hl : ord.length ≤ 1000000) : ∀ (m v : Nat) (out : List Int), m + v = f.names.length → out.length = f.names.length → out.take v = (lastsR f ord).take v →
    loopW (codeW cw (lookM mtl) mds c21l1) [1, 2, 5, 6, 7, 8] [(1, B), (2, .ptr 0 0), (5, A), (6, boolsC (endF f) (some f.names.length)), (7, .own 1 0 f.names.length 1 (some f.names.length)), (8, litI .i64 v)] [.row f.cs 29, .row (cellsI out) 3] =
      some (.exit 0, [(1, B), (2, .ptr 0 0), (5, A), (6, boolsC (endF f) (some f.names.length)), (7, .own 1 0 f.names.length 1 (some f.names.length)), (8, litI .i64 f.names.length), (22, litB false)], [.row f.cs 29, .row (cellsI (lastsR f ord)) 3])
  | 0, v, out, h, ho, ht => by
    have hv : v = f.names.length := by omega
    subst hv
    have e : out = lastsR f ord := by
      rw [List.take_of_length_le (by omega), List.take_of_length_le (by simp [lastsR])] at ht; exact ht
    rw [e]
    have l1 : Ai.load [.row f.cs 29, .row (cellsI (lastsR f ord)) 3] none (.ptr 0 1) = some (strs f.names) := rfl
    refine loopW_out ?_ (by simp)
    simp -implicitDefEqProofs only [c21l1, aW, ↓aP, makes, reduceLT, reduceEqDiff, reduceAdd, fadr_ptr, Nat.zero_add, l1, lenV_strs, Int.lt_irrefl]
  | m + 1, v, out, h, ho, ht => by
    have hv : v < f.names.length := by omega
    have hlt : (v : Int) < f.names.length := by omega
    have l1 : ∀ x, Ai.load [.row f.cs 29, .row x 3] none (.ptr 0 1) = some (strs f.names) := fun _ => rfl
    have hp := place40_call hB v hl
    have ia := iadr_ownI (r := 1) (n := f.names.length) (c := some f.names.length) (x := (v : Int)) (by omega) (by omega)
    rw [Int.toNat_natCast] at ia
    have sto : ∀ (out : List Int) (x : Int), out.length = f.names.length → storeAt [.row f.cs 29, .row (cellsI out) 3] 1 (.ptr 1 v) (litI .i64 x) = some [.row f.cs 29, .row (cellsI (out.set v x)) 3] := by
      intro out x ho
      rw [store_ptr (r := 1) (cs := cellsI out) (t := 3) rfl (by rw [cellsI_len]; omega) rfl rfl]
      have e : (cellsI out).set v (litI .i64 x) = cellsI (out.set v x) := by simp [cellsI]
      rw [e]; rfl
    have s1 := sto out (placeI ord v) ho
    have L0 := la0_loop f A B (boolsC (endF f) (some f.names.length)) (NR f) hA hg6 ord hB hl f.names.length v hv ord.length 0 (out.set v (placeI ord v)) (placeI ord v) (by omega) (by simpa using ho) (by rw [List.getD_eq_getElem?_getD, List.getElem?_set_self (by omega)]; rfl)
    rw [show ((0 : Nat) : Int) = 0 from rfl, List.drop_zero, List.set_set] at L0
    have hE : iadr 1 (boolsC (endF f) (some f.names.length)) (litI .i64 v) = some (.ip [litB ((endF f).getD v false)]) := by
      have hl : (endF f).length = f.names.length := by simp [endF, endB_len]
      rw [iadr_bools, List.getD_eq_getElem?_getD, List.getElem?_eq_getElem (by omega)]; rfl
    have hw := wrap1 (show v < 4611686018427387904 by omega)
    have tk : ∀ x, x = lastR f ord v → (out.set v x).take (v + 1) = (lastsR f ord).take (v + 1) := by
      intro x hx
      rw [List.take_add_one, List.getElem?_set_self (by omega), List.take_set_of_le (by omega), ht, List.take_add_one]
      congr 1
      simp [lastsR, hv, hx]
    cases he : (endF f).getD v false with
    | true =>
      rw [he] at hE
      have s2 := sto (out.set v (maxR (NR f) v 0 ord (placeI ord v))) ord.length (by simpa using ho)
      rw [List.set_set] at s2
      have hL : lastR f ord v = ord.length := by unfold lastR; rw [if_pos he]
      refine loopW_round ?_ (la1_loop f A B hA hg6 hnn ord hB hl m (v + 1) (out.set v ord.length) (by omega) (by simpa using ho) (tk _ hL.symm))
      simp -implicitDefEqProofs only [c21l1, aW, ↓aP, makes, reduceLT, reduceEqDiff, reduceAdd, fadr_ptr, Nat.zero_add, l1, lenV_strs, hlt, hp, ia, s1, L0, hE, load_ip1, hB.lenV, s2, hw]
    | false =>
      rw [he] at hE
      have hL : lastR f ord v = maxR (NR f) v 0 ord (placeI ord v) := by unfold lastR; rw [if_neg (by rw [he]; simp)]
      refine loopW_round ?_ (la1_loop f A B hA hg6 hnn ord hB hl m (v + 1) (out.set v (maxR (NR f) v 0 ord (placeI ord v))) (by omega) (by simpa using ho) (tk _ hL.symm))
      simp -implicitDefEqProofs only [c21l1, aW, ↓aP, makes, reduceLT, reduceEqDiff, reduceAdd, fadr_ptr, Nat.zero_add, l1, lenV_strs, hlt, hp, ia, s1, L0, hE, load_ip1, hw]
theorem lasts_call (f : FlatV) (F : FitsS f) (hG : goodOk f = true) {B : AV} {ord : List Int} (hB : RowA B ord) (hl : ord.length ≤ 1000000) (H : List AO) (id : Nat) :
    callV cw mds 21 [flatA f, B] H id = some (.val (rowC (lastsR f ord) (some f.names.length)) none) := by
  have G := goodF_of hG
  have hn := F.names
  obtain ⟨A, hA, hN⟩ := needs27_call f F hG
  have hNc : ∀ H id, callV cw mds 27 [.agg f.cs] H id = some (.val A none) := hN
  have hEc : ∀ H id, callV cw mds 23 [.agg f.cs] H id = some (.val (boolsC (endF f) (some f.names.length)) none) := end_call f F hG
  have lA : Ai.load [.row f.cs 29] (some 8) (.ptr 0 0) = some (.agg f.cs) := load_agg rfl rfl
  have l1 : Ai.load [.row f.cs 29] none (.ptr 0 1) = some (strs f.names) := rfl
  have hm1 := mksV_ok (id := 1) (e := 1) (bytes := 8) (z := [litI .i64 0]) (t := 3) (n := f.names.length) (by omega) (by omega)
  rw [reps_one] at hm1
  have hz : cellsI (List.replicate f.names.length 0) = List.replicate f.names.length (litI .i64 0) := by simp [cellsI]
  have L := la1_loop f A B hA (fun r hr => by have := NR_60 f F G r hr; omega) (by omega) ord hB hl f.names.length 0 (List.replicate f.names.length 0) (by omega) (by simp) rfl
  rw [hz, show ((0 : Nat) : Int) = 0 from rfl] at L
  have hw : [flatA f, B].all wholeA = true := by obtain ⟨e, xs, c, rfl⟩ := hB.cases; rfl
  have hlen : (lastsR f ord).length = f.names.length := by simp [lastsR]
  have told : cw 21 [flatA f, B] [] = some (.ret (.own 1 0 f.names.length 1 (some f.names.length)), [.row f.cs 29, .row (cellsI (lastsR f ord)) 3]) := by
    refine cw_of fn21 (c := c21) rfl rfl rfl rfl ?_
    simp -implicitDefEqProofs only [c21, aW, ↓aP, makes, reduceLT, reduceEqDiff, reduceAdd, core_box, flat_f, List.length_nil, List.length_cons, lA, hNc, hEc, fadr_ptr, Nat.zero_add, l1, lenV_strs, hm1, L]
    rfl
  have fz := Ord.frz_ints (H := [.row f.cs 29, .row (cellsI (lastsR f ord)) 3]) (p := 1) (k := 14) (c := some f.names.length) (l := lastsR f ord) (z := []) (t := 3) (n := f.names.length) (by rw [List.append_nil]; rfl) rfl hlen.symm
  exact callV_frz rfl hw told fz
end
section
variable {call : CallF} {mt : MtF} {md : FuncId → Md}
theorem drop_range {n i : Nat} (h : i < n) : (List.range n).drop i = i :: (List.range n).drop (i + 1) := by
  rw [List.drop_eq_getElem_cons (by simpa using h)]; simp
end
section
variable {call : CallF} {mt : MtF} {md : FuncId → Md}
def behR (g : List (List Int)) (ord : List Int) (v k : Nat) : Bool := !(needsP g v k && decide (placeI ord k ≥ placeI ord v))
def varR (g : List (List Int)) (ord slots : List Int) (m : Int) (n v : Nat) : Bool := !(decide (placeI ord v < 0)) && !(decide (slots.getD v 0 < 0)) && !(decide (slots.getD v 0 ≥ m)) && (List.range n).all (behR g ord v)
def apartR (last ord slots : List Int) (i k : Nat) : Bool := !(slots.getD (ord.getD k 0).toNat 0 == slots.getD (ord.getD i 0).toNat 0 && decide (last.getD (ord.getD k 0).toNat 0 ≥ (i : Int)))
def rightR (f : FlatV) (ord slots : List Int) (m : Int) : Bool :=
  goodOk f && ((ord.length : Int) == (f.names.length : Int)) && ((slots.length : Int) == (f.names.length : Int)) && (List.range f.names.length).all (varR (NR f) ord slots m f.names.length) &&
    (List.range f.names.length).all fun i => (List.range i).all (apartR (lastsR f ord) ord slots i)
def rrH (f : FlatV) (O S : AV) (m : Int) : List AO := [.row f.cs 29, .row [O, S, litI .i64 m] 32]
section
variable (f : FlatV) (O S A : AV) (g : List (List Int)) (hA : GraphA A g) (hg : ∀ r ∈ g, r.length ≤ 1000000) (ord slots : List Int) (hO : RowA O ord) (hS : RowA S slots) (hol : ord.length ≤ 1000000) (m : Int) (n : Nat) (hn : n ≤ 100000)
include hA hg hO hS hol hn
theorem rr0_loop (v : Nat) : ∀ (j k : Nat), j + k = n →
    loopW (codeW cw (lookM mtl) mds c20l0) [2, 3, 5, 6, 7, 8, 9] [(2, .ptr 0 0), (3, .ptr 1 0), (5, litI .i64 n), (6, A), (7, litI .i64 v), (8, litI .i64 (placeI ord v)), (9, litI .i64 k)] (rrH f O S m) =
      some (if ((List.range n).drop k).all (behR g ord v) = true then (.exit 2, [(2, .ptr 0 0), (3, .ptr 1 0), (5, litI .i64 n), (6, A), (7, litI .i64 v), (8, litI .i64 (placeI ord v)), (9, litI .i64 n), (68, litB false)], rrH f O S m) else (.ret, [(4, litB false)], rrH f O S m))
  | 0, k, h => by
    have hk : k = n := by omega
    subst hk
    rw [List.drop_of_length_le (by simp), List.all_nil, if_pos rfl]
    refine loopW_out ?_ (by simp)
    simp -implicitDefEqProofs only [c20l0, aW, ↓aP, makes, reduceLT, reduceEqDiff, reduceAdd, Int.lt_irrefl]
  | j + 1, k, h => by
    have hk : k < n := by omega
    have hlt : (k : Int) < n := by omega
    rw [drop_range hk, List.all_cons]
    have hc := needs7g_call hA v k hg
    have hp := place40_call hO k hol
    have l0 : Ai.load (rrH f O S m) none (.ptr 1 0) = some O := rfl
    have ih := rr0_loop v j (k + 1) (by omega)
    have hw := wrap1 (show k < 4611686018427387904 by omega)
    unfold behR at ih ⊢
    cases h1 : needsP g v k with
    | false =>
      rw [h1] at hc
      rw [Bool.false_and, Bool.not_false, Bool.true_and]
      refine loopW_round ?_ ih
      simp -implicitDefEqProofs only [c20l0, aW, ↓aP, makes, reduceLT, reduceEqDiff, reduceAdd, hlt, hc, hw]
    | true =>
      rw [h1] at hc
      by_cases h2 : placeI ord k ≥ placeI ord v
      · rw [decide_eq_true h2, Bool.true_and, Bool.not_true, Bool.false_and, if_neg (by simp)]
        refine loopW_out ?_ (by simp)
        simp -implicitDefEqProofs only [c20l0, aW, ↓aP, makes, reduceLT, reduceEqDiff, reduceAdd, hlt, hc, fadr_ptr, Nat.zero_add, l0, hp, h2]
      · rw [decide_eq_false h2, Bool.true_and, Bool.not_false, Bool.true_and]
        refine loopW_round ?_ ih
        simp -implicitDefEqProofs only [c20l0, aW, ↓aP, makes, reduceLT, reduceEqDiff, reduceAdd, hlt, hc, fadr_ptr, Nat.zero_add, l0, hp, h2, hw]
theorem rr1_loop (hsl : slots.length = n) : ∀ (j v : Nat), j + v = n →
    loopW (codeW cw (lookM mtl) mds c20l1) [2, 3, 5, 6, 7] [(2, .ptr 0 0), (3, .ptr 1 0), (5, litI .i64 n), (6, A), (7, litI .i64 v)] (rrH f O S m) =
      some (if ((List.range n).drop v).all (varR g ord slots m n) = true then (.exit 0, [(2, .ptr 0 0), (3, .ptr 1 0), (5, litI .i64 n), (6, A), (7, litI .i64 n), (39, litB false)], rrH f O S m) else (.ret, [(4, litB false)], rrH f O S m))
  | 0, v, h => by
    have hv : v = n := by omega
    subst hv
    rw [List.drop_of_length_le (by simp), List.all_nil, if_pos rfl]
    refine loopW_out ?_ (by simp)
    simp -implicitDefEqProofs only [c20l1, aW, ↓aP, makes, reduceLT, reduceEqDiff, reduceAdd, Int.lt_irrefl]
  | j + 1, v, h => by
    have hv : v < n := by omega
    have hlt : (v : Int) < n := by omega
    rw [drop_range hv, List.all_cons]
    have hp := place40_call hO v hol
    have l0 : Ai.load (rrH f O S m) none (.ptr 1 0) = some O := rfl
    have l1 : Ai.load (rrH f O S m) none (.ptr 1 1) = some S := rfl
    have l2 : Ai.load (rrH f O S m) none (.ptr 1 2) = some (litI .i64 m) := rfl
    have iS := hS.iadr (n := v) (x := slots.getD v 0) (Ord.getI (by omega))
    have ih := rr1_loop hsl j (v + 1) (by omega)
    have L0 := rr0_loop f O S A g hA hg ord slots hO hS hol m n hn v n 0 (by omega)
    rw [show ((0 : Nat) : Int) = 0 from rfl, List.drop_zero] at L0
    have hw := wrap1 (show v < 4611686018427387904 by omega)
    by_cases h1 : placeI ord v < 0
    · have e : varR g ord slots m n v = false := by unfold varR; rw [decide_eq_true h1]; rfl
      rw [e, Bool.false_and, if_neg (by simp)]
      refine loopW_out ?_ (by simp)
      simp -implicitDefEqProofs only [c20l1, aW, ↓aP, makes, reduceLT, reduceEqDiff, reduceAdd, hlt, fadr_ptr, Nat.zero_add, l0, hp, h1]
    by_cases h2 : slots.getD v 0 < 0
    · have e : varR g ord slots m n v = false := by unfold varR; rw [decide_eq_true h2, Bool.not_true, Bool.and_false]; rfl
      rw [e, Bool.false_and, if_neg (by simp)]
      refine loopW_out ?_ (by simp)
      simp -implicitDefEqProofs only [c20l1, aW, ↓aP, makes, reduceLT, reduceEqDiff, reduceAdd, hlt, fadr_ptr, Nat.zero_add, l0, hp, h1, l1, iS, load_ip1, h2]
    by_cases h3 : slots.getD v 0 ≥ m
    · have e : varR g ord slots m n v = false := by unfold varR; rw [decide_eq_true h3, Bool.not_true, Bool.and_false]; rfl
      rw [e, Bool.false_and, if_neg (by simp)]
      refine loopW_out ?_ (by simp)
      simp -implicitDefEqProofs only [c20l1, aW, ↓aP, makes, reduceLT, reduceEqDiff, reduceAdd, hlt, fadr_ptr, Nat.zero_add, l0, hp, h1, l1, iS, load_ip1, h2, l2, h3]
    have e : varR g ord slots m n v = (List.range n).all (behR g ord v) := by unfold varR; rw [decide_eq_false h1, decide_eq_false h2, decide_eq_false h3]; rfl
    rw [e]
    cases h4 : (List.range n).all (behR g ord v) with
    | false =>
      rw [h4, if_neg (by simp)] at L0
      rw [Bool.false_and, if_neg (by simp)]
      refine loopW_out ?_ (by simp)
      simp -implicitDefEqProofs only [c20l1, aW, ↓aP, makes, reduceLT, reduceEqDiff, reduceAdd, hlt, fadr_ptr, Nat.zero_add, l0, hp, h1, l1, iS, load_ip1, h2, l2, h3, L0]
    | true =>
      rw [h4, if_pos rfl] at L0
      rw [Bool.true_and]
      refine loopW_round ?_ ih
      simp -implicitDefEqProofs only [c20l1, aW, ↓aP, makes, reduceLT, reduceEqDiff, reduceAdd, hlt, fadr_ptr, Nat.zero_add, l0, hp, h1, l1, iS, load_ip1, h2, l2, h3, L0, hw]
end
section
variable (f : FlatV) (O S : AV) (ord slots : List Int) (hO : RowA O ord) (hS : RowA S slots) (m : Int) (n : Nat) (hn : n ≤ 100000) (last : List Int) (c : Option Nat) (hll : last.length = n) (hsl : slots.length = n) (hol : ord.length = n) (hr : ∀ x ∈ ord, 0 ≤ x ∧ x < (n : Int))
include hO hS hn hll hsl hol hr
theorem rr2_loop (i : Nat) (hi : i < n) : ∀ (j k : Nat), j + k = i →
    loopW (codeW cw (lookM mtl) mds c20l2) [3, 5, 10, 11, 12] [(3, .ptr 1 0), (5, litI .i64 n), (10, rowC last c), (11, litI .i64 i), (12, litI .i64 k)] (rrH f O S m) =
      some (if ((List.range i).drop k).all (apartR last ord slots i) = true then (.exit 6, [(3, .ptr 1 0), (5, litI .i64 n), (10, rowC last c), (11, litI .i64 i), (12, litI .i64 i), (94, litB false)], rrH f O S m) else (.ret, [(4, litB false)], rrH f O S m))
  | 0, k, h => by
    have hk : k = i := by omega
    subst hk
    rw [List.drop_of_length_le (by simp), List.all_nil, if_pos rfl]
    refine loopW_out ?_ (by simp)
    simp -implicitDefEqProofs only [c20l2, aW, ↓aP, makes, reduceLT, reduceEqDiff, reduceAdd, Int.lt_irrefl]
  | j + 1, k, h => by
    have hk : k < i := by omega
    have hlt : (k : Int) < i := by omega
    rw [drop_range hk, List.all_cons]
    have ga : ord[k]? = some (ord.getD k 0) := Ord.getI (by omega)
    have gb : ord[i]? = some (ord.getD i 0) := Ord.getI (by omega)
    have ra := hr _ (List.mem_of_getElem? ga)
    have rb := hr _ (List.mem_of_getElem? gb)
    have ih := rr2_loop i hi j (k + 1) (by omega)
    unfold apartR at ih ⊢
    generalize ord.getD k 0 = a at ga ra ⊢
    generalize ord.getD i 0 = b at gb rb ih ⊢
    have l0 : Ai.load (rrH f O S m) none (.ptr 1 0) = some O := rfl
    have l1 : Ai.load (rrH f O S m) none (.ptr 1 1) = some S := rfl
    have iA : iadr 1 S (litI .i64 a) = some (.ip [litI .i64 (slots.getD a.toNat 0)]) := by
      have := hS.iadr (n := a.toNat) (x := slots.getD a.toNat 0) (Ord.getI (by omega))
      rw [Int.toNat_of_nonneg ra.1] at this; exact this
    have iB : iadr 1 S (litI .i64 b) = some (.ip [litI .i64 (slots.getD b.toNat 0)]) := by
      have := hS.iadr (n := b.toNat) (x := slots.getD b.toNat 0) (Ord.getI (by omega))
      rw [Int.toNat_of_nonneg rb.1] at this; exact this
    have iL : iadr 1 (rowC last c) (litI .i64 a) = some (.ip [litI .i64 (last.getD a.toNat 0)]) := by
      have := iadr_row last c a.toNat
      rw [Int.toNat_of_nonneg ra.1, Ord.getI (by omega)] at this
      exact this
    have hw := wrap1 (show k < 4611686018427387904 by omega)
    cases h1 : (slots.getD a.toNat 0 == slots.getD b.toNat 0) with
    | false =>
      rw [Bool.false_and, Bool.not_false, Bool.true_and]
      refine loopW_round ?_ ih
      simp -implicitDefEqProofs only [c20l2, aW, ↓aP, makes, reduceLT, reduceEqDiff, reduceAdd, hlt, fadr_ptr, Nat.zero_add, l0, l1, hO.iadr ga, hO.iadr gb, load_ip1, iA, iB, h1, hw]
    | true =>
      by_cases h2 : last.getD a.toNat 0 ≥ (i : Int)
      · rw [decide_eq_true h2, Bool.true_and, Bool.not_true, Bool.false_and, if_neg (by simp)]
        refine loopW_out ?_ (by simp)
        simp -implicitDefEqProofs only [c20l2, aW, ↓aP, makes, reduceLT, reduceEqDiff, reduceAdd, hlt, fadr_ptr, Nat.zero_add, l0, l1, hO.iadr ga, hO.iadr gb, load_ip1, iA, iB, h1, iL, h2]
      · rw [decide_eq_false h2, Bool.true_and, Bool.not_false, Bool.true_and]
        refine loopW_round ?_ ih
        simp -implicitDefEqProofs only [c20l2, aW, ↓aP, makes, reduceLT, reduceEqDiff, reduceAdd, hlt, fadr_ptr, Nat.zero_add, l0, l1, hO.iadr ga, hO.iadr gb, load_ip1, iA, iB, h1, iL, h2, hw]
theorem rr3_loop : ∀ (j i : Nat), j + i = n →
    loopW (codeW cw (lookM mtl) mds c20l3) [3, 5, 10, 11] [(3, .ptr 1 0), (5, litI .i64 n), (10, rowC last c), (11, litI .i64 i)] (rrH f O S m) =
      some (if ((List.range n).drop i).all (fun i => (List.range i).all (apartR last ord slots i)) = true then (.exit 4, [(3, .ptr 1 0), (5, litI .i64 n), (10, rowC last c), (11, litI .i64 n), (89, litB false)], rrH f O S m) else (.ret, [(4, litB false)], rrH f O S m))
  | 0, i, h => by
    have hi : i = n := by omega
    subst hi
    rw [List.drop_of_length_le (by simp), List.all_nil, if_pos rfl]
    refine loopW_out ?_ (by simp)
    simp -implicitDefEqProofs only [c20l3, aW, ↓aP, makes, reduceLT, reduceEqDiff, reduceAdd, Int.lt_irrefl]
  | j + 1, i, h => by
    have hi : i < n := by omega
    have hlt : (i : Int) < n := by omega
    rw [drop_range hi, List.all_cons]
    have L0 := rr2_loop f O S ord slots hO hS m n hn last c hll hsl hol hr i hi i 0 (by omega)
    rw [show ((0 : Nat) : Int) = 0 from rfl, List.drop_zero] at L0
    have hw := wrap1 (show i < 4611686018427387904 by omega)
    cases h4 : (List.range i).all (apartR last ord slots i) with
    | false =>
      rw [h4, if_neg (by simp)] at L0
      rw [Bool.false_and, if_neg (by simp)]
      refine loopW_out ?_ (by simp)
      simp -implicitDefEqProofs only [c20l3, aW, ↓aP, makes, reduceLT, reduceEqDiff, reduceAdd, hlt, L0]
    | true =>
      rw [h4, if_pos rfl] at L0
      rw [Bool.true_and]
      refine loopW_round ?_ (rr3_loop j (i + 1) (by omega))
      simp -implicitDefEqProofs only [c20l3, aW, ↓aP, makes, reduceLT, reduceEqDiff, reduceAdd, hlt, L0, hw]
end
end
section
variable {call : CallF} {mt : MtF} {md : FuncId → Md}
theorem placeF_spec (v : Int) : ∀ (r : List Int) (n : Nat), (placeF v n r = -1 ∧ ¬ v ∈ r) ∨ ∃ j : Nat, placeF v n r = ((n + j : Nat) : Int) ∧ r[j]? = some v ∧ ¬ v ∈ r.take j
  | [], n => .inl ⟨rfl, by simp⟩
  | x :: r, n => by
    rw [placeF]
    by_cases h : x = v
    · right; rw [if_pos h]; exact ⟨0, rfl, by simp [h], by simp⟩
    · rw [if_neg h]
      rcases placeF_spec v r (n + 1) with ⟨h1, h2⟩ | ⟨j, h1, h2, h3⟩
      · left; exact ⟨h1, by simp [Ne.symm h, h2]⟩
      · right; refine ⟨j + 1, by rw [h1]; congr 1; omega, by simpa using h2, ?_⟩
        rw [List.take_succ_cons, List.mem_cons]
        rintro (h4 | h4)
        · exact h h4.symm
        · exact h3 h4
theorem placeI_mem {v : Int} {r : List Int} (h : ¬ placeI r v < 0) : v ∈ r := by
  rcases placeF_spec v r 0 with ⟨h1, _⟩ | ⟨j, _, h2, _⟩
  · unfold placeI at h; omega
  · exact List.mem_of_getElem? h2
theorem perm_rng {ord : List Int} {n : Nat} (hl : ord.length = n) (h : ∀ v : Nat, v < n → (v : Int) ∈ ord) : ∀ x ∈ ord, 0 ≤ x ∧ x < (n : Int) := by
  intro x hx
  apply Classical.byContradiction
  intro hc
  have h1 : ∀ v ∈ List.range n, v ∈ (ord.erase x).map Int.toNat := by
    intro v hv
    have hvo := h v (List.mem_range.1 hv)
    have hlt := List.mem_range.1 hv
    have hne : (v : Int) ≠ x := fun e => hc (by omega)
    exact List.mem_map.2 ⟨v, (List.mem_erase_of_ne hne).2 hvo, by simp⟩
  have := nodup_le List.nodup_range h1
  rw [List.length_map, List.length_erase_of_mem hx] at this
  have := List.length_pos_of_mem hx
  simp at *
  omega
theorem rright_call (f : FlatV) (F : FitsS f) {O S : AV} {ord slots : List Int} (hO : RowA O ord) (hS : RowA S slots) (hlo : ord.length ≤ 1000000) (hls : slots.length ≤ 1000000) (m : Int) (H : List AO) (id : Nat) :
    callV cw mds 20 [flatA f, planA O S m] H id = some (.val (litB (rightR f ord slots m)) none) := by
  obtain ⟨eO, xO, cO, eqO⟩ := hO.cases
  obtain ⟨eS, xS, cS, eqS⟩ := hS.cases
  have hw : [flatA f, planA O S m].all wholeA = true := by rw [eqO, eqS]; rfl
  suffices hs : ∃ H', cw 20 [flatA f, planA O S m] [] = some (.ret (litB (rightR f ord slots m)), H') by
    obtain ⟨H', h⟩ := hs
    exact callV_pureA rfl hw h rfl
  have hgc : ∀ H id, callV cw mds 25 [.agg f.cs] H id = some (.val (litB (goodOk f)) none) := fun H id => by rw [good_eq]; exact rgood_call f F.fits H id
  have hb : ∀ id, boxV id 3 (planA O S m) 32 = some (.val (.ptr id 0) (some (.row [O, S, litI .i64 m] 32))) := fun id => boxV_agg rfl (by simp [hO.cell.1, hS.cell.1]; rfl)
  have lA : Ai.load [.row f.cs 29, .row [O, S, litI .i64 m] 32] (some 8) (.ptr 0 0) = some (.agg f.cs) := load_agg rfl rfl
  have l1 : Ai.load [.row f.cs 29, .row [O, S, litI .i64 m] 32] none (.ptr 0 1) = some (strs f.names) := rfl
  have k0 : Ai.load [.row f.cs 29, .row [O, S, litI .i64 m] 32] none (.ptr 1 0) = some O := rfl
  have k1 : Ai.load [.row f.cs 29, .row [O, S, litI .i64 m] 32] none (.ptr 1 1) = some S := rfl
  have hnn := F.names
  unfold rightR
  cases hG : goodOk f with
  | false =>
    rw [hG] at hgc
    refine ⟨_, cw_of fn20 (c := c20) (r := (.ret (litB false), rrH f O S m)) rfl rfl rfl rfl ?_⟩
    simp -implicitDefEqProofs only [c20, aW, ↓aP, makes, reduceLT, reduceEqDiff, reduceAdd, core_box, flat_f, hb, List.length_nil, List.length_cons, fadr_ptr, Nat.zero_add, l1, lenV_strs, lA, hgc]
    rfl
  | true =>
  rw [hG] at hgc
  cases e1 : ((ord.length : Int) == (f.names.length : Int)) with
  | false =>
    have e1' : ((ord.length : Int) != (f.names.length : Int)) = true := by rw [bne, e1]; rfl
    refine ⟨_, cw_of fn20 (c := c20) (r := (.ret (litB false), rrH f O S m)) rfl rfl rfl rfl ?_⟩
    simp -implicitDefEqProofs only [c20, aW, ↓aP, makes, reduceLT, reduceEqDiff, reduceAdd, core_box, flat_f, hb, List.length_nil, List.length_cons, fadr_ptr, Nat.zero_add, l1, lenV_strs, lA, hgc, k0, hO.lenV, e1']
    rfl
  | true =>
  have e1' : ((ord.length : Int) != (f.names.length : Int)) = false := by rw [bne, e1]; rfl
  cases e2 : ((slots.length : Int) == (f.names.length : Int)) with
  | false =>
    have e2' : ((slots.length : Int) != (f.names.length : Int)) = true := by rw [bne, e2]; rfl
    refine ⟨_, cw_of fn20 (c := c20) (r := (.ret (litB false), rrH f O S m)) rfl rfl rfl rfl ?_⟩
    simp -implicitDefEqProofs only [c20, aW, ↓aP, makes, reduceLT, reduceEqDiff, reduceAdd, core_box, flat_f, hb, List.length_nil, List.length_cons, fadr_ptr, Nat.zero_add, l1, lenV_strs, lA, hgc, k0, hO.lenV, e1', k1, hS.lenV, e2']
    rfl
  | true =>
  have e2' : ((slots.length : Int) != (f.names.length : Int)) = false := by rw [bne, e2]; rfl
  have hol : ord.length = f.names.length := by have := eq_of_beq e1; omega
  have hsl : slots.length = f.names.length := by have := eq_of_beq e2; omega
  have G := goodF_of hG
  obtain ⟨A, hA, hN⟩ := needs27_call f F hG
  have hNc : ∀ H id, callV cw mds 27 [.agg f.cs] H id = some (.val A none) := hN
  have L1 := rr1_loop f O S A (NR f) hA (fun r hr => by have := NR_60 f F G r hr; omega) ord slots hO hS hlo m f.names.length (by omega) hsl f.names.length 0 (by omega)
  rw [show ((0 : Nat) : Int) = 0 from rfl, List.drop_zero, show rrH f O S m = [.row f.cs 29, .row [O, S, litI .i64 m] 32] from rfl] at L1
  cases e3 : (List.range f.names.length).all (varR (NR f) ord slots m f.names.length) with
  | false =>
    rw [e3, if_neg (by simp)] at L1
    refine ⟨_, cw_of fn20 (c := c20) (r := (.ret (litB false), rrH f O S m)) rfl rfl rfl rfl ?_⟩
    simp -implicitDefEqProofs only [c20, aW, ↓aP, makes, reduceLT, reduceEqDiff, reduceAdd, core_box, flat_f, hb, List.length_nil, List.length_cons, fadr_ptr, Nat.zero_add, l1, lenV_strs, lA, hgc, k0, hO.lenV, e1', k1, hS.lenV, e2', hNc, L1]
    rfl
  | true =>
  rw [e3, if_pos rfl] at L1
  have hr : ∀ x ∈ ord, 0 ≤ x ∧ x < (f.names.length : Int) := by
    refine perm_rng hol fun v hv => ?_
    rw [List.all_eq_true] at e3
    have := e3 v (List.mem_range.2 hv)
    simp only [varR, Bool.and_eq_true, Bool.not_eq_true', decide_eq_false_iff_not] at this
    exact placeI_mem this.1.1.1
  have hLc : ∀ H id, callV cw mds 21 [.agg f.cs, O] H id = some (.val (rowC (lastsR f ord) (some f.names.length)) none) := fun H id => lasts_call f F hG hO (by omega) H id
  have L3 := rr3_loop f O S ord slots hO hS m f.names.length (by omega) (lastsR f ord) (some f.names.length) (by simp [lastsR]) hsl hol hr f.names.length 0 (by omega)
  rw [show ((0 : Nat) : Int) = 0 from rfl, List.drop_zero, show rrH f O S m = [.row f.cs 29, .row [O, S, litI .i64 m] 32] from rfl] at L3
  cases e4 : (List.range f.names.length).all (fun i => (List.range i).all (apartR (lastsR f ord) ord slots i)) with
  | false =>
    rw [e4, if_neg (by simp)] at L3
    refine ⟨_, cw_of fn20 (c := c20) (r := (.ret (litB false), rrH f O S m)) rfl rfl rfl rfl ?_⟩
    simp -implicitDefEqProofs only [c20, aW, ↓aP, makes, reduceLT, reduceEqDiff, reduceAdd, core_box, flat_f, hb, List.length_nil, List.length_cons, fadr_ptr, Nat.zero_add, l1, lenV_strs, lA, hgc, k0, hO.lenV, e1', k1, hS.lenV, e2', hNc, L1, hLc, L3]
    rfl
  | true =>
    rw [e4, if_pos rfl] at L3
    refine ⟨_, cw_of fn20 (c := c20) (r := (.ret (litB true), rrH f O S m)) rfl rfl rfl rfl ?_⟩
    simp -implicitDefEqProofs only [c20, aW, ↓aP, makes, reduceLT, reduceEqDiff, reduceAdd, core_box, flat_f, hb, List.length_nil, List.length_cons, fadr_ptr, Nat.zero_add, l1, lenV_strs, lA, hgc, k0, hO.lenV, e1', k1, hS.lenV, e2', hNc, L1, hLc, L3]
    rfl
end
section
set_option maxRecDepth 1000000 in
theorem awake18_says : saysTrue (callB (lookF tb) ovs (lookM mtl) mds 30 18 [] []) = true := by kernel_rfl
theorem awake18_tells : ∃ H', cw 18 [] [] = some (.ret (litB true), H') := by
  obtain ⟨H', h⟩ := saysTrue_some awake18_says
  exact ⟨H', callW_some.2 ⟨30, callB_le 30 _ _ _ _ h⟩⟩
theorem awake18_call (H : List AO) (id : Nat) : callV cw mds 18 [] H id = some (.val (litB true) none) := by
  obtain ⟨H', h⟩ := awake18_tells
  exact callV_pure rfl rfl h rfl
end
section
theorem setN_other (g : Eqn → List Int) (v : Nat) : ∀ (l : List Eqn) (rows : List (List Int)), (∀ q ∈ l, q.var.toNat ≠ v) → (setN g rows l).getD v [] = rows.getD v []
  | [], _, _ => rfl
  | q :: l, rows, h => by
    rw [setN, setN_other g v l _ fun q' hq => h q' (List.mem_cons_of_mem _ hq)]
    rw [List.getD_eq_getElem?_getD, List.getElem?_set_ne (h q (List.mem_cons_self ..)), ← List.getD_eq_getElem?_getD]
theorem setN_get (g : Eqn → List Int) : ∀ (l : List Eqn) (rows : List (List Int)), (∀ q ∈ l, 0 ≤ q.var ∧ q.var < (rows.length : Int)) → (l.map (·.var)).Nodup → ∀ q ∈ l, (setN g rows l).getD q.var.toNat [] = g q
  | [], _, _, _ => by simp
  | q :: l, rows, h, hn => by
    rw [List.map_cons, List.nodup_cons] at hn
    have hq := h q (List.mem_cons_self ..)
    intro q' hq'
    rw [setN]
    rcases List.mem_cons.1 hq' with rfl | hq'
    · rw [setN_other g _ l _ fun x hx e => hn.1 (List.mem_map.2 ⟨x, hx, by have := h x (List.mem_cons_of_mem _ hx); omega⟩)]
      rw [List.getD_eq_getElem?_getD, List.getElem?_set_self (by omega)]; rfl
    · exact setN_get g l _ (fun x hx => by rw [List.length_set]; exact h x (List.mem_cons_of_mem _ hx)) hn.2 q' hq'
theorem NC_get (f : FlatV) (G : GoodF f) (q : Eqn) (hq : q ∈ f.eqs) : (NC f).getD q.var.toNat [] = needC f q := setN_get (needC f) f.eqs _ (fun q hq => by rw [List.length_replicate]; exact G.var q hq) G.nodup q hq
theorem NR_get (f : FlatV) (G : GoodF f) (q : Eqn) (hq : q ∈ f.eqs) : (NR f).getD q.var.toNat [] = needR f q := setN_get (needR f) f.eqs _ (fun q hq => by rw [List.length_replicate]; exact G.var q hq) G.nodup q hq
theorem mem_needC (f : FlatV) (q : Eqn) (x : Int) : x ∈ needC f q ↔ 0 ≤ x ∧ x ∈ needR f q := by
  unfold needC needR
  rw [List.mem_filter, Ord.mem_compI, Ord.mem_sortI]
  simp only [Bool.not_eq_true', decide_eq_false_iff_not, List.mem_append, List.mem_cons, List.not_mem_nil, or_false]
  constructor
  · rintro ⟨(h | h) | h, h0⟩
    · exact ⟨by omega, .inl (.inl h)⟩
    · exact ⟨by omega, .inr h⟩
    · refine ⟨by omega, .inl (.inr ?_)⟩
      rw [if_pos (by omega)]; simp [h]
  · rintro ⟨h0, (h | h) | h⟩
    · exact ⟨.inl (.inl h), by omega⟩
    · split at h
      · simp only [List.mem_cons, List.not_mem_nil, or_false] at h; exact ⟨.inr h, by omega⟩
      · cases h
    · exact ⟨.inl (.inr h), by omega⟩
theorem needsP_NC (f : FlatV) (F : FitsS f) (G : GoodF f) (i k : Nat) (hi : i < f.names.length) (hk : k < f.names.length) : needsP (NR f) i k = true ↔ (k : Int) ∈ (NC f).getD i [] := by
  obtain ⟨q, hq, e⟩ := G.all i hi
  have h1 := NC_get f G q hq
  have h2 := NR_get f G q hq
  rw [e] at h1 h2
  rw [h1, mem_needC]
  unfold needsP
  rw [Int.toNat_natCast, h2, NR_len, decide_eq_true (show (0 : Int) ≤ i by omega), decide_eq_true (show (i : Int) < f.names.length by omega), decide_eq_true (show (0 : Int) ≤ k by omega), decide_eq_true (show (k : Int) < f.names.length by omega)]
  simp only [Bool.true_and, List.contains_iff_mem]
  exact ⟨fun h => ⟨by omega, h⟩, fun h => h.2⟩
theorem nodup_inj {l : List Int} (h : l.Nodup) {i j : Nat} {x : Int} (hi : l[i]? = some x) (hj : l[j]? = some x) : i = j := by
  obtain ⟨h1, e1⟩ := List.getElem?_eq_some_iff.1 hi
  obtain ⟨h2, e2⟩ := List.getElem?_eq_some_iff.1 hj
  rw [List.Nodup, List.pairwise_iff_getElem] at h
  rcases Nat.lt_trichotomy i j with hlt | heq | hgt
  · exact absurd (e1.trans e2.symm) (h i j h1 h2 hlt)
  · exact heq
  · exact absurd (e2.trans e1.symm) (h j i h2 h1 hgt)
structure PermO (n : Nat) (ord : List Int) : Prop where
  len : ord.length = n
  rng : ∀ x ∈ ord, 0 ≤ x ∧ x < (n : Int)
  nd : ord.Nodup
def posO (ord : List Int) (v : Nat) : Nat := (placeI ord v).toNat
theorem PermO.all {n : Nat} {ord : List Int} (P : PermO n ord) (v : Nat) (hv : v < n) : (v : Int) ∈ ord := by
  have hm : (ord.map Int.toNat).Nodup := by
    have hr := P.rng
    have hn := P.nd
    clear P
    induction ord with
    | nil => simp
    | cons x l ih =>
      rw [List.nodup_cons] at hn
      rw [List.map_cons, List.nodup_cons]
      refine ⟨fun hm => hn.1 ?_, ih (fun y hy => hr y (List.mem_cons_of_mem _ hy)) hn.2⟩
      obtain ⟨y, hy, e⟩ := List.mem_map.1 hm
      have h1 := hr x (List.mem_cons_self ..)
      have h2 := hr y (List.mem_cons_of_mem _ hy)
      rw [show x = y by omega]; exact hy
  have := nodup_all hm (by rw [List.length_map, P.len]) (fun x hx => by
    obtain ⟨y, hy, rfl⟩ := List.mem_map.1 hx
    have := P.rng y hy; omega) v hv
  obtain ⟨y, hy, e⟩ := List.mem_map.1 this
  have := P.rng y hy
  rw [show (v : Int) = y by omega]; exact hy
theorem PermO.pos {n : Nat} {ord : List Int} (P : PermO n ord) (v : Nat) (hv : v < n) : placeI ord v = (posO ord v : Int) ∧ ord[posO ord v]? = some (v : Int) := by
  rcases placeF_spec v ord 0 with ⟨_, h2⟩ | ⟨j, h1, h2, _⟩
  · exact absurd (P.all v hv) h2
  · have e : placeI ord v = (j : Int) := by unfold placeI; rw [h1]; congr 1; omega
    unfold posO
    rw [e]
    exact ⟨rfl, h2⟩
theorem PermO.at_ {n : Nat} {ord : List Int} (P : PermO n ord) {i : Nat} {v : Nat} (h : ord[i]? = some (v : Int)) : posO ord v = i := by
  have hv : v < n := by have := P.rng _ (List.mem_of_getElem? h); omega
  have h2 := (P.pos v hv).2
  exact nodup_inj P.nd h2 h
theorem PermO.lt {n : Nat} {ord : List Int} (P : PermO n ord) {v : Nat} (hv : v < n) : posO ord v < n := by
  have := (List.getElem?_eq_some_iff.1 (P.pos v hv).2).1
  rw [P.len] at this; exact this
theorem PermO.inj {n : Nat} {ord : List Int} (P : PermO n ord) {u v : Nat} (hu : u < n) (hv : v < n) (h : posO ord u = posO ord v) : u = v := by
  have h1 := (P.pos u hu).2
  have h2 := (P.pos v hv).2
  rw [h, h2] at h1
  simp only [sI] at h1
  omega
theorem setAll_get : ∀ (l r : List Int) (i : Nat) (v : Nat), l.Nodup → (∀ x ∈ l, 0 ≤ x ∧ x < (r.length : Int)) → (∀ j, l[j]? = some (v : Int) → (setAll r i l).getD v 0 = (i + j : Nat)) ∧ (¬ (v : Int) ∈ l → (setAll r i l).getD v 0 = r.getD v 0)
  | [], r, i, v, _, _ => ⟨fun j h => (by cases h), fun _ => rfl⟩
  | x :: l, r, i, v, hn, hr => by
    rw [List.nodup_cons] at hn
    have hx := hr x (List.mem_cons_self ..)
    obtain ⟨h1, h2⟩ := setAll_get l (r.set x.toNat i) (i + 1) v hn.2 (fun y hy => by rw [List.length_set]; exact hr y (List.mem_cons_of_mem _ hy))
    rw [setAll]
    refine ⟨fun j hj => ?_, fun hm => ?_⟩
    · cases j with
      | zero =>
        simp only [List.getElem?_cons_zero, sI] at hj
        rw [h2 (by rw [← hj]; exact hn.1), hj, Int.toNat_natCast, List.getD_eq_getElem?_getD, List.getElem?_set_self (by omega)]; rfl
      | succ j =>
        simp only [List.getElem?_cons_succ] at hj
        rw [h1 j hj]; congr 1; omega
    · rw [List.mem_cons] at hm
      rw [h2 fun h => hm (.inr h), List.getD_eq_getElem?_getD, List.getElem?_set_ne (by omega), ← List.getD_eq_getElem?_getD]
theorem firstF_get {n : Nat} {ord : List Int} (P : PermO n ord) (v : Nat) (hv : v < n) : (firstF ord).getD v 0 = (posO ord v : Int) := by
  unfold firstF
  have := (setAll_get ord (List.replicate ord.length 0) 0 v P.nd (fun x hx => by rw [List.length_replicate, P.len]; exact P.rng x hx)).1 _ (P.pos v hv).2
  rw [this]; congr 1; omega
end
section
theorem getD_set' (l : List Int) (i a : Nat) (x : Int) (hi : i < l.length) : (l.set i x).getD a 0 = if i = a then x else l.getD a 0 := by
  rw [Ord.getD_set]
  by_cases h : i = a
  · rw [if_pos ⟨h, hi⟩, if_pos h]
  · rw [if_neg (fun h2 => h h2.1), if_neg h]
theorem maxK_le (fv : Int) (k : Nat) (z : Int) : ∀ (row last : List Int), (∀ x ∈ row, 0 ≤ x ∧ x < (last.length : Int)) → ((maxK fv last row).getD k 0 ≤ z ↔ last.getD k 0 ≤ z ∧ ((k : Int) ∈ row → fv ≤ z))
  | [], last, _ => by simp [maxK]
  | x :: row, last, h => by
    have hx := h x (List.mem_cons_self ..)
    rw [maxK, maxK_le fv k z row _ (fun y hy => by rw [List.length_set]; exact h y (List.mem_cons_of_mem _ hy)), getD_set' _ _ _ _ (by omega), List.mem_cons]
    by_cases e : x.toNat = k
    · have e' : (k : Int) = x := by omega
      rw [if_pos e, e]
      constructor
      · rintro ⟨h1, h2⟩; exact ⟨by omega, fun _ => by omega⟩
      · rintro ⟨h1, h2⟩; exact ⟨by have := h2 (.inl e'); omega, fun _ => h2 (.inl e')⟩
    · have e' : ¬ (k : Int) = x := by omega
      rw [if_neg e]
      constructor
      · rintro ⟨h1, h2⟩; exact ⟨h1, fun h => h2 (h.resolve_left e')⟩
      · rintro ⟨h1, h2⟩; exact ⟨h1, fun h => h2 (.inr h)⟩
theorem maxV_le (first : List Int) (k : Nat) (z : Int) : ∀ (g : List (List Int)) (v : Nat) (last : List Int), (∀ r ∈ g, ∀ x ∈ r, 0 ≤ x ∧ x < (last.length : Int)) →
    ((maxV first v last g).getD k 0 ≤ z ↔ last.getD k 0 ≤ z ∧ ∀ j, (k : Int) ∈ g.getD j [] → first.getD (v + j) 0 ≤ z)
  | [], v, last, _ => by simp [maxV]
  | row :: g, v, last, h => by
    rw [maxV, maxV_le first k z g (v + 1) _ (fun r hr x hx => by rw [maxK_len]; exact h r (List.mem_cons_of_mem _ hr) x hx), maxK_le _ _ _ _ _ (h row (List.mem_cons_self ..))]
    constructor
    · rintro ⟨⟨h1, h2⟩, h3⟩
      refine ⟨h1, fun j hj => ?_⟩
      cases j with
      | zero => exact h2 hj
      | succ j =>
        have := h3 j hj
        rw [show v + (j + 1) = v + 1 + j by omega]; exact this
    · rintro ⟨h1, h2⟩
      refine ⟨⟨h1, fun hm => h2 0 hm⟩, fun j hj => ?_⟩
      have := h2 (j + 1) hj
      rw [show v + 1 + j = v + (j + 1) by omega]; exact this
theorem endK_get (n : Int) (k : Nat) : ∀ (l last : List Int), (∀ x ∈ l, 0 ≤ x ∧ x < (last.length : Int)) → (endK n last l).getD k 0 = if (k : Int) ∈ l then n else last.getD k 0
  | [], last, _ => by simp [endK]
  | x :: l, last, h => by
    have hx := h x (List.mem_cons_self ..)
    rw [endK, endK_get n k l _ (fun y hy => by rw [List.length_set]; exact h y (List.mem_cons_of_mem _ hy)), getD_set' _ _ _ _ (by omega)]
    by_cases e : x.toNat = k
    · have e' : (k : Int) = x := by omega
      rw [if_pos e, if_pos (show (k : Int) ∈ x :: l from List.mem_cons.2 (.inl e'))]
      split <;> rfl
    · have e' : ¬ (k : Int) = x := by omega
      rw [if_neg e]
      simp only [List.mem_cons, e', false_or]
theorem maxR_le (g : List (List Int)) (v z : Int) : ∀ (l : List Int) (i : Nat) (acc : Int), (maxR g v i l acc ≤ z ↔ acc ≤ z ∧ ∀ (j : Nat) (o : Int), l[j]? = some o → needsP g o v = true → ((i + j : Nat) : Int) ≤ z)
  | [], i, acc => by simp [maxR]
  | x :: l, i, acc => by
    rw [maxR, maxR_le g v z l (i + 1)]
    by_cases hp : needsP g x v = true
    · rw [if_pos hp]
      constructor
      · rintro ⟨h1, h2⟩
        refine ⟨by omega, fun j o hj hn => ?_⟩
        cases j with
        | zero => omega
        | succ j =>
          simp only [List.getElem?_cons_succ] at hj
          have := h2 j o hj hn
          rw [show i + (j + 1) = i + 1 + j by omega]; exact this
      · rintro ⟨h1, h2⟩
        have h0 := h2 0 x rfl hp
        refine ⟨by simp at h0; omega, fun j o hj hn => ?_⟩
        have := h2 (j + 1) o (by simpa using hj) hn
        rw [show i + 1 + j = i + (j + 1) by omega]; exact this
    · rw [if_neg hp]
      constructor
      · rintro ⟨h1, h2⟩
        refine ⟨h1, fun j o hj hn => ?_⟩
        cases j with
        | zero => simp only [List.getElem?_cons_zero, sI] at hj; subst hj; exact absurd hn hp
        | succ j =>
          simp only [List.getElem?_cons_succ] at hj
          have := h2 j o hj hn
          rw [show i + (j + 1) = i + 1 + j by omega]; exact this
      · rintro ⟨h1, h2⟩
        refine ⟨h1, fun j o hj hn => ?_⟩
        have := h2 (j + 1) o (by simpa using hj) hn
        rw [show i + 1 + j = i + (j + 1) by omega]; exact this
theorem endB_get (k : Nat) : ∀ (l : List Int) (bs_ : List Bool), k < bs_.length → (∀ x ∈ l, x < (bs_.length : Int)) → ((endB bs_ l).getD k false = true ↔ bs_.getD k false = true ∨ (k : Int) ∈ l)
  | [], bs_, _, _ => by simp [endB]
  | x :: l, bs_, hk, h => by
    have hx := h x (List.mem_cons_self ..)
    rw [endB]
    by_cases h0 : 0 ≤ x
    · rw [if_pos h0, endB_get k l _ (by simpa using hk) (fun y hy => by rw [List.length_set]; exact h y (List.mem_cons_of_mem _ hy)), List.mem_cons]
      by_cases e : x.toNat = k
      · have e' : (k : Int) = x := by omega
        have : (bs_.set x.toNat true).getD k false = true := by
          rw [e, List.getD_eq_getElem?_getD, List.getElem?_set_self hk]; rfl
        rw [this]; exact ⟨fun _ => .inr (.inl e'), fun _ => .inl rfl⟩
      · have e' : ¬ (k : Int) = x := by omega
        have : (bs_.set x.toNat true).getD k false = bs_.getD k false := by
          rw [List.getD_eq_getElem?_getD, List.getElem?_set_ne e, ← List.getD_eq_getElem?_getD]
        rw [this]; simp [e']
    · rw [if_neg h0, endB_get k l _ hk (fun y hy => h y (List.mem_cons_of_mem _ hy)), List.mem_cons]
      have e' : ¬ (k : Int) = x := by omega
      simp [e']
theorem le_all {a b : Int} (h : ∀ z, a ≤ z ↔ b ≤ z) : a = b := by
  have h1 := (h b).2 (Int.le_refl _)
  have h2 := (h a).1 (Int.le_refl _)
  omega
section
variable (f : FlatV) (F : FitsS f) (G : GoodF f) {ord : List Int} (P : PermO f.names.length ord)
include F G P
theorem endF_iff (k : Nat) (hk : k < f.names.length) : (endF f).getD k false = true ↔ (k : Int) ∈ behF f := by
  unfold endF behF
  rw [endB_get k _ _ (by simpa using hk) (fun x hx => by rw [List.length_replicate]; exact endL_rng f G x hx), List.mem_filter]
  have : (List.replicate f.names.length false).getD k false = false := by
    rw [List.getD_eq_getElem?_getD, List.getElem?_replicate]; split <;> rfl
  rw [this]
  have hneg : ¬ ((k : Int) < 0) := by omega
  simp [hneg]
theorem lastF_get (k : Nat) (hk : k < f.names.length) : (lastF f ord).getD k 0 = lastR f ord k := by
  unfold lastF
  have hfl : (firstF ord).length = f.names.length := by rw [firstF_len, P.len]
  rw [endK_get _ k _ _ (fun x hx => by rw [maxV_len, hfl]; exact behF_rng f G x hx)]
  unfold lastR
  by_cases he : (k : Int) ∈ behF f
  · rw [if_pos he, if_pos ((endF_iff f F G P k hk).2 he)]
  · rw [if_neg he, if_neg (fun h => he ((endF_iff f F G P k hk).1 h))]
    refine le_all fun z => ?_
    rw [maxV_le _ k z _ _ _ (fun r hr x hx => by rw [hfl]; exact NC_rng f F G r hr x hx), maxR_le, firstF_get P k hk, (P.pos k hk).1]
    refine and_congr Iff.rfl ?_
    constructor
    · intro h j o hj hn
      have hoR := P.rng o (List.mem_of_getElem? hj)
      have hoe : ((o.toNat : Nat) : Int) = o := by omega
      rw [← hoe] at hn hj
      have hm := (needsP_NC f F G o.toNat k (by omega) hk).1 hn
      have := h o.toNat hm
      rw [Nat.zero_add, firstF_get P _ (by omega), P.at_ hj] at this
      rw [Nat.zero_add]; exact this
    · intro h v hv
      have hvl : v < f.names.length := by
        apply Classical.byContradiction
        intro hc
        rw [List.getD_eq_getElem?_getD, List.getElem?_eq_none (by rw [NC_len]; omega)] at hv
        cases hv
      have hn := (needsP_NC f F G v k hvl hk).2 hv
      have := h (posO ord v) v (P.pos v hvl).2 hn
      rw [Nat.zero_add] at this
      rw [Nat.zero_add, firstF_get P _ hvl]; exact this
theorem lastF_eq : lastF f ord = lastsR f ord := by
  apply List.ext_getElem
  · rw [lastF_len, P.len]; simp [lastsR]
  · intro k h1 h2
    have hk : k < f.names.length := by simpa [lastsR] using h2
    have := lastF_get f F G P k hk
    rw [List.getD_eq_getElem?_getD, List.getElem?_eq_getElem h1] at this
    simp only [Option.getD_some] at this
    rw [this]
    simp [lastsR]
end
end
section
theorem perm_of_sub : ∀ {l m : List Int}, l.Nodup → (∀ x ∈ l, x ∈ m) → m.length ≤ l.length → l.Perm m
  | [], m, _, _, h => by
    have : m = [] := List.eq_nil_of_length_eq_zero (by simpa using h)
    rw [this]
  | x :: r, m, hn, hs, hl => by
    rw [List.nodup_cons] at hn
    have hx := hs x (List.mem_cons_self ..)
    have := perm_of_sub (l := r) (m := m.erase x) hn.2 (fun y hy => by
      have hne : y ≠ x := fun e => hn.1 (e ▸ hy)
      exact (List.mem_erase_of_ne hne).2 (hs y (List.mem_cons_of_mem _ hy))) (by
      rw [List.length_erase_of_mem hx]
      simp only [List.length_cons] at hl; omega)
    exact (List.Perm.cons x this).trans (List.perm_cons_erase hx).symm
theorem permO_of_all {ord : List Int} {n : Nat} (hl : ord.length = n) (h : ∀ v : Nat, v < n → (v : Int) ∈ ord) : PermO n ord := by
  have hn : ((List.range n).map fun v : Nat => (v : Int)).Nodup := by
    rw [List.nodup_iff_pairwise_ne, List.pairwise_map]
    exact List.nodup_range.imp fun h e => h (by omega)
  have hp := perm_of_sub hn (fun x hx => by
    obtain ⟨v, hv, rfl⟩ := List.mem_map.1 hx
    exact h v (List.mem_range.1 hv)) (by simp [hl])
  refine ⟨hl, fun x hx => ?_, hp.nodup_iff.1 hn⟩
  obtain ⟨v, hv, rfl⟩ := List.mem_map.1 (hp.mem_iff.2 hx)
  have := List.mem_range.1 hv
  omega
theorem atF_eq (n : Nat) : ∀ (l at_ : List Int) (i : Nat), at_.length = n → (atF n at_ i l = some (setAll at_ i l) ∧ l.Nodup ∧ ∀ x ∈ l, (0 ≤ x ∧ x < (n : Int)) ∧ at_.getD x.toNat 0 < 0) ∨ (atF n at_ i l = none ∧ ¬ (l.Nodup ∧ ∀ x ∈ l, (0 ≤ x ∧ x < (n : Int)) ∧ at_.getD x.toNat 0 < 0))
  | [], at_, i, _ => .inl ⟨rfl, List.nodup_nil, by simp⟩
  | v :: l, at_, i, ha => by
    rw [atF, setAll]
    by_cases hc : v < 0 ∨ (n : Int) ≤ v ∨ 0 ≤ at_.getD v.toNat 0
    · right
      rw [if_pos hc]
      refine ⟨rfl, fun h => ?_⟩
      have := h.2 v (List.mem_cons_self ..)
      omega
    · rw [if_neg hc]
      have gs : ∀ x : Int, 0 ≤ x → x < (n : Int) → ((at_.set v.toNat i).getD x.toNat 0 < 0 ↔ x ≠ v ∧ at_.getD x.toNat 0 < 0) := by
        intro x h0 h1
        rw [getD_set' _ _ _ _ (by omega)]
        by_cases e : v.toNat = x.toNat
        · rw [if_pos e]
          have : x = v := by omega
          simp [this]
        · rw [if_neg e]
          have : x ≠ v := by omega
          simp [this]
      rcases atF_eq n l (at_.set v.toNat i) (i + 1) (by simpa using ha) with ⟨h1, h2, h3⟩ | ⟨h1, h2⟩
      · left
        refine ⟨h1, ?_, fun x hx => ?_⟩
        · rw [List.nodup_cons]
          refine ⟨fun hm => ?_, h2⟩
          have := h3 v hm
          exact ((gs v this.1.1 this.1.2).1 this.2).1 rfl
        · rcases List.mem_cons.1 hx with rfl | hx
          · exact ⟨⟨by omega, by omega⟩, by omega⟩
          · have := h3 x hx
            exact ⟨this.1, ((gs x this.1.1 this.1.2).1 this.2).2⟩
      · right
        refine ⟨h1, fun h => h2 ?_⟩
        obtain ⟨hn, hr⟩ := h
        rw [List.nodup_cons] at hn
        refine ⟨hn.2, fun x hx => ?_⟩
        have := hr x (List.mem_cons_of_mem _ hx)
        exact ⟨this.1, (gs x this.1.1 this.1.2).2 ⟨fun e => hn.1 (e ▸ hx), this.2⟩⟩
theorem needsAt_iff (at_ : List Int) : ∀ (g : List (List Int)) (v : Nat), needsAt at_ v g = true ↔ ∀ j, j < g.length → behindA at_ (v + j) (g.getD j []) = true
  | [], v => by simp [needsAt]
  | row :: g, v => by
    rw [needsAt, Bool.and_eq_true, needsAt_iff at_ g (v + 1)]
    constructor
    · rintro ⟨h1, h2⟩ j hj
      cases j with
      | zero => exact h1
      | succ j =>
        have := h2 j (by simpa using hj)
        rw [show v + (j + 1) = v + 1 + j by omega]; exact this
    · intro h
      refine ⟨h 0 (by simp), fun j hj => ?_⟩
      have := h (j + 1) (by simpa using hj)
      rw [show v + 1 + j = v + (j + 1) by omega]; exact this
structure OrdOk (f : FlatV) (ord : List Int) : Prop where
  p : PermO f.names.length ord
  b : ∀ v k : Nat, v < f.names.length → k < f.names.length → (k : Int) ∈ (NC f).getD v [] → posO ord k < posO ord v
section
variable (f : FlatV) (F : FitsS f) (G : GoodF f)
include F G
theorem ordered_iff {ord : List Int} (hl : ord.length = f.names.length) : orderedF f ord = true ↔ OrdOk f ord := by
  unfold orderedF
  have hm1 : ∀ x : Nat, x < f.names.length → (List.replicate f.names.length (-1 : Int)).getD x 0 = -1 := fun x hx => by
    rw [List.getD_eq_getElem?_getD, List.getElem?_replicate, if_pos hx]; rfl
  rcases atF_eq f.names.length ord (List.replicate f.names.length (-1)) 0 (by simp) with ⟨h1, h2, h3⟩ | ⟨h1, h2⟩
  · rw [h1]
    simp only
    have P : PermO f.names.length ord := ⟨hl, fun x hx => (h3 x hx).1, h2⟩
    have ga : ∀ v : Nat, v < f.names.length → (setAll (List.replicate f.names.length (-1)) 0 ord).getD v 0 = (posO ord v : Int) := by
      intro v hv
      have := (setAll_get ord (List.replicate f.names.length (-1)) 0 v P.nd (fun x hx => by rw [List.length_replicate]; exact P.rng x hx)).1 _ (P.pos v hv).2
      rw [this]; congr 1; omega
    rw [needsAt_iff]
    constructor
    · intro h
      refine ⟨P, fun v k hv hk hn => ?_⟩
      have := h v (by rw [NC_len]; exact hv)
      rw [Nat.zero_add] at this
      unfold behindA at this
      rw [Bool.and_eq_true, Bool.not_eq_true', Bool.not_eq_true', List.any_eq_false] at this
      have := this.2 _ hn
      rw [Int.toNat_natCast, ga v hv, ga k hk] at this
      simp only [ge_iff_le, decide_eq_true_eq] at this
      omega
    · intro h v hv
      rw [NC_len] at hv
      rw [Nat.zero_add]
      unfold behindA
      rw [Bool.and_eq_true, Bool.not_eq_true', Bool.not_eq_true', List.any_eq_false, ga v hv]
      refine ⟨by simp, fun x hx => ?_⟩
      have hrow : (NC f).getD v [] ∈ NC f := by
        rw [List.getD_eq_getElem?_getD, List.getElem?_eq_getElem (by rw [NC_len]; exact hv)]; exact List.getElem_mem _
      have hxr := NC_rng f F G _ hrow x hx
      have := h.b v x.toNat hv (by omega) (by rw [show ((x.toNat : Nat) : Int) = x by omega]; exact hx)
      rw [ga x.toNat (by omega)]
      simp; omega
  · rw [h1]
    constructor
    · intro h; cases h
    · intro h
      exfalso
      refine h2 ⟨h.p.nd, fun x hx => ⟨h.p.rng x hx, ?_⟩⟩
      rw [hm1 _ (by have := h.p.rng x hx; omega)]; omega
def sAt (ord slots : List Int) (k : Nat) : Int := slots.getD (ord.getD k 0).toNat 0
def lAt (ord last : List Int) (k : Nat) : Int := last.getD (ord.getD k 0).toNat 0
def Apart (ord slots last : List Int) (n : Nat) : Prop := ∀ i, i < n → ∀ k, k < i → sAt ord slots k = sAt ord slots i → lAt ord last k < (i : Int)
omit F G in
theorem apartR_iff (ord slots last : List Int) (n : Nat) : ((List.range n).all fun i => (List.range i).all (apartR last ord slots i)) = true ↔ Apart ord slots last n := by
  rw [List.all_eq_true]
  unfold Apart
  constructor
  · intro h i hi k hk hs
    have := h i (List.mem_range.2 hi)
    rw [List.all_eq_true] at this
    have := this k (List.mem_range.2 hk)
    unfold apartR at this
    unfold sAt at hs
    rw [hs, beq_self_eq_true, Bool.true_and, Bool.not_eq_true', decide_eq_false_iff_not] at this
    unfold lAt; omega
  · intro h i hi
    rw [List.all_eq_true]
    intro k hk
    have := h i (List.mem_range.1 hi) k (List.mem_range.1 hk)
    unfold apartR
    unfold sAt lAt at this
    by_cases hs : slots.getD (ord.getD k 0).toNat 0 = slots.getD (ord.getD i 0).toNat 0
    · have := this hs
      rw [hs, beq_self_eq_true, Bool.true_and, Bool.not_eq_true', decide_eq_false_iff_not]; omega
    · have : (slots.getD (ord.getD k 0).toNat 0 == slots.getD (ord.getD i 0).toNat 0) = false := by simpa using hs
      rw [this]; rfl
def MapAt (ord slots : List Int) (i : Nat) (m : Int → Option Int) : Prop := ∀ s, (m s = none ∧ ∀ k, k < i → sAt ord slots k ≠ s) ∨ ∃ k, k < i ∧ m s = some (ord.getD k 0) ∧ sAt ord slots k = s ∧ ∀ k', k < k' → k' < i → sAt ord slots k' ≠ s
omit F G in
theorem liesOk_iff (ord slots last : List Int) : ∀ (j i : Nat) (m : Int → Option Int), j + i = ord.length → MapAt ord slots i m → Apart ord slots last i → (liesOk last slots i (ord.drop i) m = true ↔ Apart ord slots last ord.length)
  | 0, i, m, h, M, A => by
    have hi : i = ord.length := by omega
    subst hi
    rw [List.drop_length, liesOk]
    exact ⟨fun _ => A, fun _ => rfl⟩
  | j + 1, i, m, h, M, A => by
    have hi : i < ord.length := by omega
    have hg : ord.getD i 0 = ord[i] := by rw [List.getD_eq_getElem?_getD, List.getElem?_eq_getElem hi]; rfl
    rw [List.drop_eq_getElem_cons hi, liesOk, ← hg]
    have hs : slots.getD (ord.getD i 0).toNat 0 = sAt ord slots i := rfl
    rw [hs]
    have key : (match m (sAt ord slots i) with | some old => decide (last.getD old.toNat 0 < (i : Int)) | none => true) = true ↔ ∀ k, k < i → sAt ord slots k = sAt ord slots i → lAt ord last k < (i : Int) := by
      rcases M (sAt ord slots i) with ⟨h1, h2⟩ | ⟨k, h1, h2, h3, h4⟩
      · rw [h1]
        exact ⟨fun _ k hk e => absurd e (h2 k hk), fun _ => rfl⟩
      · rw [h2]
        simp only [decide_eq_true_eq]
        constructor
        · intro hl k' hk' e
          by_cases e1 : k' = k
          · subst e1; exact hl
          · by_cases hlt : k < k'
            · exact absurd e (h4 k' hlt hk')
            · have := A k h1 k' (by omega) (e.trans h3.symm)
              unfold lAt at this ⊢
              omega
        · intro h
          exact h k h1 h3
    have M' : MapAt ord slots (i + 1) fun s => if s = sAt ord slots i then some (ord.getD i 0) else m s := by
      intro s
      by_cases e : s = sAt ord slots i
      · right
        refine ⟨i, by omega, if_pos e, e.symm, fun k' h1 h2 => by omega⟩
      · rcases M s with ⟨h1, h2⟩ | ⟨k, h1, h2, h3, h4⟩
        · left
          refine ⟨by simp only [if_neg e]; exact h1, fun k hk => ?_⟩
          by_cases e2 : k = i
          · subst e2; exact fun h => e h.symm
          · exact h2 k (by omega)
        · right
          refine ⟨k, by omega, by simp only [if_neg e]; exact h2, h3, fun k' h5 h6 => ?_⟩
          by_cases e2 : k' = i
          · subst e2; exact fun h => e h.symm
          · exact h4 k' h5 (by omega)
    rw [Bool.and_eq_true]
    refine (and_congr key Iff.rfl).trans ?_
    constructor
    · rintro ⟨h1, h2⟩
      refine (liesOk_iff ord slots last j (i + 1) _ (by omega) M' (fun i' hi' k hk e => ?_)).1 h2
      by_cases e2 : i' = i
      · subst e2; exact h1 k hk e
      · exact A i' (by omega) k hk e
    · intro h
      refine ⟨h i hi, (liesOk_iff ord slots last j (i + 1) _ (by omega) M' (fun i' hi' k hk e => ?_)).2 h⟩
      exact h i' (by omega) k hk e
theorem right_iff {ord slots : List Int} {m : Int} (hG : goodOk f = true) : rightF f ord slots m = rightR f ord slots m := by
  unfold rightF rightR
  cases e1 : ((ord.length : Int) == (f.names.length : Int)) with
  | false => simp
  | true =>
  cases e2 : ((slots.length : Int) == (f.names.length : Int)) with
  | false => simp
  | true =>
  have hol : ord.length = f.names.length := by have := eq_of_beq e1; omega
  have hsl : slots.length = f.names.length := by have := eq_of_beq e2; omega
  rw [hG]
  simp only [Bool.true_and]
  have hslots : (!(slots.any fun s => decide (s < 0) || decide (s ≥ m))) = true ↔ ∀ v, v < f.names.length → 0 ≤ slots.getD v 0 ∧ slots.getD v 0 < m := by
    rw [Bool.not_eq_true', List.any_eq_false]
    constructor
    · intro h v hv
      have := h (slots.getD v 0) (by rw [List.getD_eq_getElem?_getD, List.getElem?_eq_getElem (by omega)]; exact List.getElem_mem _)
      simp only [Bool.or_eq_true, decide_eq_true_eq, not_or] at this
      omega
    · intro h s hs
      obtain ⟨v, hv⟩ := List.getElem?_of_mem hs
      have hlt := (List.getElem?_eq_some_iff.1 hv).1
      have := h v (by omega)
      rw [List.getD_eq_getElem?_getD, hv] at this
      simp only [Option.getD_some] at this
      simp only [Bool.or_eq_true, decide_eq_true_eq, not_or]; omega
  have hvar : (List.range f.names.length).all (varR (NR f) ord slots m f.names.length) = true ↔ (∀ v, v < f.names.length → 0 ≤ slots.getD v 0 ∧ slots.getD v 0 < m) ∧ OrdOk f ord := by
    rw [List.all_eq_true]
    constructor
    · intro h
      have hv := fun v hv => h v (List.mem_range.2 hv)
      simp only [varR, Bool.and_eq_true, Bool.not_eq_true', decide_eq_false_iff_not] at hv
      have P : PermO f.names.length ord := permO_of_all hol fun v hvl => placeI_mem (hv v hvl).1.1.1
      refine ⟨fun v hvl => ?_, P, fun v k hvl hk hn => ?_⟩
      · have := hv v hvl; omega
      · have := (hv v hvl).2
        rw [List.all_eq_true] at this
        have := this k (List.mem_range.2 hk)
        unfold behR at this
        rw [(needsP_NC f F G v k hvl hk).2 hn, Bool.true_and, Bool.not_eq_true', decide_eq_false_iff_not, (P.pos v hvl).1, (P.pos k hk).1] at this
        omega
    · rintro ⟨h1, h2⟩ v hv
      have hv := List.mem_range.1 hv
      have := h1 v hv
      unfold varR
      rw [(h2.p.pos v hv).1, decide_eq_false (show ¬ ((posO ord v : Int) < 0) by omega), decide_eq_false (show ¬ slots.getD v 0 < 0 by omega), decide_eq_false (show ¬ slots.getD v 0 ≥ m by omega)]
      simp only [Bool.not_false, Bool.true_and]
      rw [List.all_eq_true]
      intro k hk
      have hk := List.mem_range.1 hk
      unfold behR
      by_cases hn : needsP (NR f) v k = true
      · have := h2.b v k hv hk ((needsP_NC f F G v k hv hk).1 hn)
        rw [hn, (h2.p.pos v hv).1, (h2.p.pos k hk).1, Bool.true_and, Bool.not_eq_true', decide_eq_false_iff_not]; omega
      · rw [Bool.not_eq_true] at hn; rw [hn]; rfl
  rw [Bool.eq_iff_iff, Bool.and_eq_true, Bool.and_eq_true, Bool.and_eq_true, hslots, ordered_iff f F G hol, hvar, apartR_iff]
  constructor
  · rintro ⟨⟨h1, h2⟩, h3⟩
    refine ⟨⟨h1, h2⟩, ?_⟩
    have := (liesOk_iff ord slots (lastF f ord) ord.length 0 (fun _ => none) (by omega) (fun s => .inl ⟨rfl, by omega⟩) (fun i hi => by omega)).1 (by rw [List.drop_zero]; exact h3)
    rw [lastF_eq f F G h2.p, hol] at this
    exact this
  · rintro ⟨⟨h1, h2⟩, h3⟩
    refine ⟨⟨h1, h2⟩, ?_⟩
    have := (liesOk_iff ord slots (lastF f ord) ord.length 0 (fun _ => none) (by omega) (fun s => .inl ⟨rfl, by omega⟩) (fun i hi => by omega)).2 (by rw [lastF_eq f F G h2.p, hol]; exact h3)
    rw [List.drop_zero] at this
    exact this
end
end
section
variable {call : CallF} {mt : MtF} {md : FuncId → Md}
theorem small15_c (f : FlatV) (H : List AO) (id : Nat) : callV cw mds 15 [.agg f.cs] H id = some (.val (litB (small25 f)) none) := small15_call f H id
theorem planRights6_tells (f : FlatV) {O S : AV} {o s : List Int} (hO : RowA O o) (hS : RowA S s) (m : Int) : ∃ H', cw 6 [flatA f, planA O S m] [] = some (.ret (litB true), H') := by
  have hb : ∀ id, boxV id 3 (planA O S m) 32 = some (.val (.ptr id 0) (some (.row [O, S, litI .i64 m] 32))) := fun id => boxV_agg rfl (by simp [hO.cell.1, hS.cell.1]; rfl)
  have lA : Ai.load [.row f.cs 29, .row [O, S, litI .i64 m] 32] (some 8) (.ptr 0 0) = some (.agg f.cs) := load_agg rfl rfl
  have lP : Ai.load [.row f.cs 29, .row [O, S, litI .i64 m] 32] (some 3) (.ptr 1 0) = some (planA O S m) := load_agg rfl rfl
  have l0 : Ai.load [.row f.cs 29, .row [O, S, litI .i64 m] 32] none (.ptr 1 0) = some O := rfl
  have l1 : Ai.load [.row f.cs 29, .row [O, S, litI .i64 m] 32] none (.ptr 1 1) = some S := rfl
  have hsm := small15_c f
  have haw := awake18_call
  cases hs : small25 f with
  | false =>
    rw [hs] at hsm
    refine ⟨_, cw_of fn6 (c := c6) (r := (.ret (litB true), [.row f.cs 29, .row [O, S, litI .i64 m] 32])) rfl rfl rfl rfl ?_⟩
    simp -implicitDefEqProofs only [c6, aW, ↓aP, makes, reduceLT, reduceEqDiff, reduceAdd, core_box, flat_f, hb, List.length_nil, List.length_cons, lA, hsm]
    rfl
  | true =>
    rw [hs] at hsm
    have F := fitsS_of f hs
    by_cases ho : (o.length : Int) > 50
    · refine ⟨_, cw_of fn6 (c := c6) (r := (.ret (litB true), [.row f.cs 29, .row [O, S, litI .i64 m] 32])) rfl rfl rfl rfl ?_⟩
      simp -implicitDefEqProofs only [c6, aW, ↓aP, makes, reduceLT, reduceEqDiff, reduceAdd, core_box, flat_f, hb, List.length_nil, List.length_cons, lA, hsm, fadr_ptr, l0, hO.lenV, ho]
      rfl
    · by_cases hs2 : (s.length : Int) > 50
      · refine ⟨_, cw_of fn6 (c := c6) (r := (.ret (litB true), [.row f.cs 29, .row [O, S, litI .i64 m] 32])) rfl rfl rfl rfl ?_⟩
        simp -implicitDefEqProofs only [c6, aW, ↓aP, makes, reduceLT, reduceEqDiff, reduceAdd, core_box, flat_f, hb, List.length_nil, List.length_cons, lA, hsm, fadr_ptr, l0, hO.lenV, ho, l1, hS.lenV, hs2]
        rfl
      · have h1 : ∀ H id, callV cw mds 19 [.agg f.cs, planA O S m] H id = _ := fun H id => pright_call f F hO hS (by omega) (by omega) m H id
        have h2 : ∀ H id, callV cw mds 20 [.agg f.cs, planA O S m] H id = some (.val (litB (rightF f o s m)) none) := fun H id => by
          have := rright_call f F hO hS (by omega) (by omega) m H id
          have e : rightR f o s m = rightF f o s m := by
            cases hG : goodOk f with
            | false => unfold rightR rightF; rw [hG]; rfl
            | true => exact (right_iff f F (goodF_of hG) hG).symm
          rw [e] at this
          exact this
        refine ⟨_, cw_of fn6 (c := c6) (r := (.ret (litB true), [.row f.cs 29, .row [O, S, litI .i64 m] 32])) rfl rfl rfl rfl ?_⟩
        simp -implicitDefEqProofs only [c6, aW, ↓aP, makes, reduceLT, reduceEqDiff, reduceAdd, core_box, flat_f, hb, List.length_nil, List.length_cons, lA, lP, hsm, fadr_ptr, l0, hO.lenV, ho, l1, hS.lenV, hs2, h1, h2, haw]
        rfl
end
section
set_option maxRecDepth 100000
def tPlan : Ty := .cons (.sl tI) (.cons (.sl tI) (.cons tI .unit))
theorem flat_arg {a : AV} (h : argSh Try.prog 29 tFlat a) : ∃ f : FlatV, a = flatA f := by
  unfold argSh at h
  rw [Try.underlying29] at h
  simp only at h
  obtain ⟨xs, rfl, h2⟩ := h
  obtain ⟨f, rfl⟩ := flat_sh h2
  exact ⟨f, rfl⟩
theorem plan_arg {a : AV} (h : argSh Try.prog 32 tPlan a) : ∃ (o s : List Int) (m : Int), a = planA (rowC o none) (rowC s none) m := by
  unfold argSh at h
  rw [Try.underlying32] at h
  simp only at h
  obtain ⟨xs, rfl, h2⟩ := h
  obtain ⟨x1, y1, e1, h1, x2, y2, e2, h2, x3, y3, e3, h3, e4⟩ := h2
  obtain ⟨o, rfl⟩ := ints_sh h1
  obtain ⟨s, rfl⟩ := ints_sh h2
  obtain ⟨m, rfl⟩ := int_sh h3
  subst e4 e3 e2 e1
  exact ⟨o, s, m, rfl⟩
end
end Go.Proofs.Ytcgbdndkfonphaa.Ai
