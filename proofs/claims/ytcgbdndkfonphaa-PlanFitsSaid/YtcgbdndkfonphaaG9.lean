/- Seat of layers 14 and 15: PlanOf, PlanRights, PlanFits tell true. No condition. -/
import Derived.Test.YtcgbdndkfonphaaG8
namespace Go.Proofs.Ytcgbdndkfonphaa.Ai
open Go Go.Ai
set_option linter.unusedSimpArgs false
set_option linter.unusedVariables false
variable {call : CallF} {mt : MtF} {md : FuncId → Md}
theorem small15_c (f : FlatV) (H : List AO) (id : Nat) : callV cw mds 15 [.agg f.cs] H id = some (.val (litB (small25 f)) none) := small15_call f H id
theorem store_pl (f : FlatV) (R : List AO) {O S : AV} {o s : List Int} (hO : RowA O o) (hS : RowA S s) (m : Int) (x : List AV) (hx : x.length = 3) (r : Nat) (H : List AO) (h : H[r]? = some (.row x 32)) : storeAt H 3 (.ptr r 0) (planA O S m) = some (setL H r (.row [O, S, litI .i64 m] 32)) :=
  storeAt_agg (cs := x) h hx rfl (by simp [hO.cell.1, hS.cell.1]; rfl)
abbrev zPl : List AV := [.sl 0 [] (some 0), .sl 0 [] (some 0), litI .i64 0]
theorem planFits7_tells (f : FlatV) : ∃ H', cw 7 [flatA f] [] = some (.ret (litB true), H') := by
  have lA0 : Ai.load [.row f.cs 29] (some 8) (.ptr 0 0) = some (.agg f.cs) := load_agg rfl rfl
  have hsm := small15_c f
  have haw := awake18_call
  cases hs : small25 f with
  | false =>
    rw [hs] at hsm
    refine ⟨_, cw_of fn7 (c := c7) (r := (.ret (litB true), [.row f.cs 29])) rfl rfl rfl rfl ?_⟩
    simp -implicitDefEqProofs only [c7, Go.Ai.aiAll, ↓ifS_true, ↓ifS_false, initFr, Nat.reduceEqDiff, Nat.reduceLT, Nat.reduceAdd, ↓reduceIte, Nat.reduceBEq, makes, core_box, flat_f, List.length_nil, List.length_cons, lA0, hsm]
    rfl
  | true =>
    rw [hs] at hsm
    have F := fitsS_of f hs
    cases hp : planOk f with
    | false =>
      have h1 : ∀ H id, callV cw mds 16 [.agg f.cs] H id = _ := fun H id => planOf_bad f F hp H id
      have he : (errA (goodOk f) (Ord.okL (NC f)) != 0) = true := by
        unfold planOk at hp
        cases h1 : goodOk f with
        | false => rfl
        | true => rw [h1, Bool.true_and] at hp; rw [hp]; rfl
      have st1 : storeAt [.row f.cs 29, .row zPl 32] 3 (.ptr 1 0) (planA (.sl 0 [] (some 0)) (.sl 0 [] (some 0)) 0) = some [.row f.cs 29, .row zPl 32] := store_pl f [] RowA.nil RowA.nil 0 _ rfl _ _ rfl
      have l0 : Ai.load [.row f.cs 29, .row zPl 32] none (.ptr 1 0) = some (.sl 0 [] (some 0)) := rfl
      have l1 : Ai.load [.row f.cs 29, .row zPl 32] none (.ptr 1 1) = some (.sl 0 [] (some 0)) := rfl
      have l2 : Ai.load [.row f.cs 29, .row zPl 32] none (.ptr 1 2) = some (litI .i64 0) := rfl
      have w0 : IntKind.wrap .i64 (0 + 0) = 0 := rfl
      refine ⟨_, cw_of fn7 (c := c7) (r := (.ret (litB true), [.row f.cs 29, .row zPl 32])) rfl rfl rfl rfl ?_⟩
      simp -implicitDefEqProofs only [c7, Go.Ai.aiAll, ↓ifS_true, ↓ifS_false, initFr, Nat.reduceEqDiff, Nat.reduceLT, Nat.reduceAdd, ↓reduceIte, Nat.reduceBEq, makes, core_box, flat_f, List.length_nil, List.length_cons, lA0, hsm, h1, st1, he, fadr_ptr, l0, l1, l2, Int.natCast_zero, w0, haw]
      rfl
    | true =>
      obtain ⟨B, hB, h1⟩ := planOf_good f F hp
      have h1 : ∀ H id, callV cw mds 16 [.agg f.cs] H id = some (.val (.tup [planA B (rowC (plS f) (some (ordL (NC f)).length)) (plN f), litI .i64 0]) none) := h1
      unfold planOk at hp
      rw [Bool.and_eq_true] at hp
      obtain ⟨hG, hK⟩ := hp
      have G := goodF_of hG
      have hn := F.names
      have P := (ordL_ok f F G hK).p
      have hl := pl_len f F G hK
      have hS := RowA.of (plS f) (some (ordL (NC f)).length)
      generalize hSd : rowC (plS f) (some (ordL (NC f)).length) = S at hS h1
      have st1 : storeAt [.row f.cs 29, .row zPl 32] 3 (.ptr 1 0) (planA B S (plN f)) = some [.row f.cs 29, .row [B, S, litI .i64 (plN f)] 32] := store_pl f [] hB hS _ _ rfl _ _ rfl
      have lA1 : Ai.load [.row f.cs 29, .row [B, S, litI .i64 (plN f)] 32] (some 8) (.ptr 0 0) = some (.agg f.cs) := load_agg rfl rfl
      have lP1 : Ai.load [.row f.cs 29, .row [B, S, litI .i64 (plN f)] 32] (some 3) (.ptr 1 0) = some (planA B S (plN f)) := load_agg rfl rfl
      have hr : ∀ H id, callV cw mds 19 [.agg f.cs, planA B S (plN f)] H id = some (.val (litB true) none) := fun H id => by
        have := pright_call f F hB hS (by rw [P.len]; omega) (by rw [hl]; omega) (plN f) H id
        rw [pl_right f F G hK hG] at this
        exact this
      refine ⟨_, cw_of fn7 (c := c7) (r := (.ret (litB true), [.row f.cs 29, .row [B, S, litI .i64 (plN f)] 32])) rfl rfl rfl rfl ?_⟩
      simp -implicitDefEqProofs only [c7, Go.Ai.aiAll, ↓ifS_true, ↓ifS_false, initFr, Nat.reduceEqDiff, Nat.reduceLT, Nat.reduceAdd, ↓reduceIte, Nat.reduceBEq, makes, core_box, flat_f, List.length_nil, List.length_cons, lA0, hsm, h1, st1, lA1, lP1, bne_self_eq_false, hr, haw]
      rfl
end Go.Proofs.Ytcgbdndkfonphaa.Ai
namespace Go.Proofs.Ytcgbdndkfonphaa.Ai
open Go Go.Ai
set_option linter.unusedSimpArgs false
set_option linter.unusedVariables false
set_option maxRecDepth 100000
theorem flat_arg {a : AV} (h : argSh Try.prog 29 tFlat a) : ∃ f : FlatV, a = flatA f := by
  unfold argSh at h
  rw [Try.underlying29] at h
  simp only at h
  obtain ⟨xs, rfl, h2⟩ := h
  obtain ⟨f, rfl⟩ := flat_sh h2
  exact ⟨f, rfl⟩
end Go.Proofs.Ytcgbdndkfonphaa.Ai
