/- Seat of layers 14 and 15: heap Pop and Push. No condition. -/
import Derived.Test.YtcgbdndkfonphaaG6
set_option linter.unusedSimpArgs false
set_option linter.unusedVariables false
set_option linter.unusedSectionVars false
open Nat (reduceLT reduceEqDiff reduceAdd)
namespace Go.Proofs.Ytcgbdndkfonphaa.Ai.Ord
open Go Go.Ai Go.Proofs.Ytcgbdndkfonphaa.Ai
section
variable {call : CallF} {mt : MtF} {md : FuncId → Md}
variable {cs : Nat → Option Nat} {cc : Option Nat}
section
variable {H : List AO} {q p : Nat} {l : List Int} {z : List AV} {d : List Obj1} {id : Nat}
theorem down_tells (O : Own H (rd q p l z ++ d)) (hz : z.all whole = true) (n : Nat) (hn : n ≤ l.length) (hl : l.length ≤ 9000) (h0 : 0 < l.length) :
    ∃ H' b, cw 87 [.iface 123 (.ptr q 0), litI .i64 0, litI .i64 n] H = some (.ret (litB b), H') ∧ H'.length = H.length ∧ Own H' (rd q p (downL n l 0 n) z ++ d) := by
  obtain ⟨H', fr', L, k2, ⟨i', k3⟩, k4, k5⟩ := down_loop q p d z hz (litI .i64 0) n n l 0 H hn hl (by omega) (by omega) (by omega) h0 O
  rw [show ((0 : Nat) : Int) = 0 from rfl] at L
  refine ⟨H', decide (0 < (i' : Int)), cw_of fn87 (c := c87) (H := H) rfl rfl rfl rfl ?_, k4, k5⟩
  simp -implicitDefEqProofs only [c87, aW, ↓aP, makes, reduceLT, reduceEqDiff, reduceAdd, ↓reduceIte, Nat.reduceBEq, L, get_put, k2, k3]
  simp only [Option.bind_some, fin, fn87, res, resL, resV, get_keep_mem (show 6 ∈ [6] by simp), get_put, if_true]
def upL : Nat → List Int → Nat → List Int
  | 0, l, _ => l
  | k + 1, l, j => if j = 0 then l else if l.getD j 0 < l.getD ((j - 1) / 2) 0 then upL k (swapL l ((j - 1) / 2) j) ((j - 1) / 2) else l
theorem upL_len : ∀ (k : Nat) (l : List Int) (j : Nat), (upL k l j).length = l.length
  | 0, _, _ => rfl
  | k + 1, l, j => by
    rw [upL]
    repeat' split
    all_goals first
      | rfl
      | rw [upL_len, swapL_len]
theorem half {j : Nat} (h : 0 < j) : (((j : Int) - 1).tdiv 2) = (((j - 1) / 2 : Nat) : Int) := by
  rw [show (j : Int) - 1 = ((j - 1 : Nat) : Int) by omega]
  rfl
theorem up_loop (q p : Nat) (d : List Obj1) (z : List AV) (hz : z.all whole = true) : ∀ (k : Nat) (l : List Int) (j : Nat) (H : List AO), j < l.length → l.length ≤ 9000 → j ≤ k → Own H (rd q p l z ++ d) →
    ∃ H' fr', loopW (codeW cw (lookM mtl) mds c88l0) [0, 1] [(0, .iface 123 (.ptr q 0)), (1, litI .i64 j)] H = some (EX.exit 0, fr', H') ∧ H'.length = H.length ∧ Own H' (rd q p (upL (k + 1) l j) z ++ d) := by
  have zero : ∀ (k : Nat) (l : List Int) (H : List AO), Own H (rd q p l z ++ d) →
      ∃ H' fr', loopW (codeW cw (lookM mtl) mds c88l0) [0, 1] [(0, .iface 123 (.ptr q 0)), (1, litI .i64 (0 : Nat))] H = some (EX.exit 0, fr', H') ∧ H'.length = H.length ∧ Own H' (rd q p (upL (k + 1) l 0) z ++ d) := by
    intro k l H O
    refine ⟨H, _, loopW_out (fr' := [(0, .iface 123 (.ptr q 0)), (1, litI .i64 (0 : Nat)), (4, litI .i64 0), (17, litB true)]) ?_ (by simp), rfl, by rw [upL, if_pos rfl]; exact O⟩
    have e1 : IntKind.wrap .i64 (((0 : Nat) : Int) - 1) = -1 := by decide
    have e2 : IntKind.wrap .i64 ((-1 : Int).tdiv 2) = 0 := by decide
    have e3 : ((0 : Int) == ((0 : Nat) : Int)) = true := by decide
    simp -implicitDefEqProofs only [c88l0, aW, ↓aP, makes, reduceLT, reduceEqDiff, reduceAdd, ↓reduceIte, Nat.reduceBEq, e1, bin_quo .i64 (show (2 : Int) ≠ 0 by decide), e2, e3]
  intro k
  induction k with
  | zero =>
    intro l j H hj hl hk O
    have : j = 0 := by omega
    subst this
    exact zero 0 l H O
  | succ k ih =>
    intro l j H hj hl hk O
    by_cases h0 : j = 0
    · subst h0; exact zero _ l H O
    · rw [upL, if_neg h0]
      have e1 : IntKind.wrap .i64 ((j : Int) - 1) = (j : Int) - 1 := by rw [wrap_mid] <;> omega
      have e2 : IntKind.wrap .i64 (((j : Int) - 1).tdiv 2) = (((j - 1) / 2 : Nat) : Int) := by rw [half (by omega), wrap_mid] <;> omega
      have e3 : ((((j - 1) / 2 : Nat) : Int) == (j : Int)) = false := by rw [beq_eq_false_iff_ne]; omega
      have L1 := fun id => less_inv (id := id) O hz j ((j - 1) / 2) hj (by omega)
      by_cases hs : l.getD j 0 < l.getD ((j - 1) / 2) 0
      · rw [if_pos hs]
        simp only [decide_eq_true hs] at L1
        obtain ⟨H1, s1, s2, s3⟩ := swap_inv (id := H.length) O ((j - 1) / 2) j (by omega) (by omega)
        obtain ⟨H', fr', k1, k2, k3⟩ := ih (swapL l ((j - 1) / 2) j) ((j - 1) / 2) H1 (by rw [swapL_len]; omega) (by rw [swapL_len]; exact hl) (by omega) s3
        refine ⟨H', fr', loopW_round ?_ k1, by omega, k3⟩
        simp -implicitDefEqProofs only [c88l0, aW, ↓aP, makes, reduceLT, reduceEqDiff, reduceAdd, ↓reduceIte, Nat.reduceBEq, e1, bin_quo .i64 (show (2 : Int) ≠ 0 by decide), e2, e3, L1, s1]
      · rw [if_neg hs]
        simp only [decide_eq_false hs] at L1
        refine ⟨H, _, loopW_out (fr' := [(0, .iface 123 (.ptr q 0)), (1, litI .i64 j), (4, litI .i64 (((j - 1) / 2 : Nat) : Int)), (17, litB true)]) ?_ (by simp), rfl, O⟩
        simp -implicitDefEqProofs only [c88l0, aW, ↓aP, makes, reduceLT, reduceEqDiff, reduceAdd, ↓reduceIte, Nat.reduceBEq, e1, bin_quo .i64 (show (2 : Int) ≠ 0 by decide), e2, e3, L1]
theorem up_tells (O : Own H (rd q p l z ++ d)) (hz : z.all whole = true) (j : Nat) (hj : j < l.length) (hl : l.length ≤ 9000) :
    ∃ H', cw 88 [.iface 123 (.ptr q 0), litI .i64 j] H = some (.ret (.tup []), H') ∧ H'.length = H.length ∧ Own H' (rd q p (upL (j + 1) l j) z ++ d) := by
  obtain ⟨H', fr', L, k2, k3⟩ := up_loop q p d z hz j l j H hj hl (Nat.le_refl _) O
  refine ⟨H', cw_of fn88 (c := c88) (H := H) rfl rfl rfl rfl ?_, k2, k3⟩
  simp -implicitDefEqProofs only [c88, aW, ↓aP, makes, reduceLT, reduceEqDiff, reduceAdd, ↓reduceIte, Nat.reduceBEq, L]
  rfl
theorem mpop_tells {x : Int} (O : Own H (rd q p (l ++ [x]) z ++ d)) (hl : l.length ≤ 9000) :
    ∃ H', cw 129 [.ptr q 0] H = some (.ret (.iface 3 (litI .i64 x)), H') ∧ H'.length = H.length ∧ Own H' (rd q p l (litI .i64 x :: z) ++ d) := by
  have hlen : (l ++ [x]).length = l.length + 1 := by simp
  have hc : cellsI (l ++ [x]) ++ z = cellsI l ++ (litI .i64 x :: z) := by simp [cellsI]
  have O' : Own H ((q, [.own p 0 (l.length + 1) 1 none], 118) :: (p, cellsI l ++ (litI .i64 x :: z), 3) :: d) := by
    have := O
    simp only [rd, hlen, hc] at this
    exact this
  have O1 := O'.set [.own p 0 l.length 1 none] 118
  refine ⟨_, cw_of fn129 (c := c129) (H := H) (r := (.ret (.iface 3 (litI .i64 x)), setL H q (.row [.own p 0 l.length 1 none] 118))) rfl rfl rfl rfl ?_, by simp [setL_len], O1⟩
  have hw : IntKind.wrap .i64 (((l.length + 1 : Nat) : Int) - 1) = (l.length : Int) := by rw [wrap_small] <;> omega
  have hp : H[p]? = some (.row (cellsI l ++ (litI .i64 x :: z)) 3) := O'.get (p, _, 3) (by simp)
  have hx : (cellsI l ++ (litI .i64 x :: z))[l.length]? = some (litI .i64 x) := by rw [List.getElem?_append_right (by simp [cellsI])]; simp [cellsI]
  have h1 : (l.length : Int) < ((l.length + 1 : Nat) : Int) := by omega
  have hs : slice 1 (.own p 0 (l.length + 1) 1 none) none (some (litI .i64 (l.length : Int))) none = some (.own p 0 l.length 1 none) := by
    rw [slice_own_to (by omega) (by omega)]; simp
  have st : storeAt H 1 (.ptr q 0) (.own p 0 l.length 1 none) = some (setL H q (.row [.own p 0 l.length 1 none] 118)) := by
    rw [store_ptr O'.head (by simp) rfl rfl]; rfl
  simp -implicitDefEqProofs only [c129, aW, ↓aP, makes, reduceLT, reduceEqDiff, reduceAdd, ↓reduceIte, Nat.reduceBEq, load_ptr0 O'.head, hw, h1, and_self, load_ptr hp, hx, hs, st, Nat.mul_one]
  rfl
def Rd (H : List AO) (q : Nat) (l : List Int) (d : List Obj1) : Prop :=
  (l = [] ∧ Own H ((q, [.sl 0 [] (some 0)], 118) :: d)) ∨ ∃ p z, z.all whole = true ∧ Own H (rd q p l z ++ d)
theorem mpush_tells {x : Int} (O : Rd H q l d) (hl : l.length ≤ 9000) :
    ∃ H' p, cw 130 [.ptr q 0, .iface 3 (litI .i64 x)] H = some (.ret (.tup []), H') ∧ H.length < H'.length ∧ p = H.length ∧ Own H' (rd q p (l ++ [x]) [] ++ d) := by
  rcases O with ⟨rfl, O⟩ | ⟨p, z, hz, O⟩
  · have O0 := O.new [litI .i64 x] 3
    have O1 := ((O0.perm (List.Perm.swap ..)).set [.own H.length 0 1 1 none] 118)
    refine ⟨_, H.length, cw_of fn130 (c := c130) (H := H) (r := (.ret (.tup []), setL (H ++ [.row [litI .i64 x] 3]) q (.row [.own H.length 0 1 1 none] 118))) rfl rfl rfl rfl ?_, by simp [setL_len], rfl, O1⟩
    have ap : append H H.length 1 8 3 (.sl 0 [] (some 0)) (.sl 1 [[litI .i64 x]] (some 1)) = some (.val (.own H.length 0 1 1 none) (some (.row [litI .i64 x] 3))) := rfl
    have st : storeAt (H ++ [.row [litI .i64 x] 3]) 1 (.ptr q 0) (.own H.length 0 1 1 none) = some (setL (H ++ [.row [litI .i64 x] 3]) q (.row [.own H.length 0 1 1 none] 118)) := by
      rw [store_ptr ((O0.perm (List.Perm.swap ..)).head) (by simp) rfl rfl]; rfl
    simp -implicitDefEqProofs only [c130, aW, ↓aP, makes, reduceLT, reduceEqDiff, reduceAdd, ↓reduceIte, Nat.reduceBEq, load_ptr0 O.head, ap, st]
    rfl
  · have hp := rd_p O
    have hpt : H[p]? = some (.row (cellsI l ++ z) 3) := hp
    have ap : append H H.length 1 8 3 (.own p 0 l.length 1 none) (.sl 1 [[litI .i64 x]] (some 1)) = some (.wr (.own H.length 0 (l.length + 1) 1 none) (setL H p .dead ++ [.row (cellsI (l ++ [x])) 3])) := by
      have h2 : (cellsI l ++ z).take (l.length * 1) = cellsI l := by rw [Nat.mul_one, List.take_left' (by simp [cellsI])]
      have h3 : Nat.ble (l.length * 1) (cellsI l ++ z).length = true := Nat.ble_eq_true_of_le (by simp [cellsI])
      have h4 : Nat.ble ((l.length + 1) * 8) 140737488355328 = true := Nat.ble_eq_true_of_le (by omega)
      simp only [append, elems, List.drop_zero, BEq.rfl, Bool.true_or, cond_true, Option.bind_some, List.length_cons, List.length_nil, Nat.zero_add, Nat.reduceBEq, cond_false, rowAt_of hpt, h2, h3, h4, Bool.and_self, List.flatten_cons, List.flatten_nil, List.append_nil]
      simp [cellsI]
    have Ok : Own (setL H p .dead) ((q, [.own p 0 l.length 1 none], 118) :: d) := by
      have := O.perm (d' := (p, cellsI l ++ z, 3) :: (q, [.own p 0 l.length 1 none], 118) :: d) (List.Perm.swap ..)
      exact this.kill
    have On := Ok.new (cellsI (l ++ [x])) 3
    rw [setL_len] at On
    have Os := (On.perm (List.Perm.swap ..)).set [.own H.length 0 (l.length + 1) 1 none] 118
    have hlen : (l ++ [x]).length = l.length + 1 := by simp
    refine ⟨_, H.length, cw_of fn130 (c := c130) (H := H) (r := (.ret (.tup []), setL (setL H p .dead ++ [.row (cellsI (l ++ [x])) 3]) q (.row [.own H.length 0 (l.length + 1) 1 none] 118))) rfl rfl rfl rfl ?_, by simp [setL_len], rfl, ?_⟩
    · have st : storeAt (setL H p .dead ++ [.row (cellsI (l ++ [x])) 3]) 1 (.ptr q 0) (.own H.length 0 (l.length + 1) 1 none) = some (setL (setL H p .dead ++ [.row (cellsI (l ++ [x])) 3]) q (.row [.own H.length 0 (l.length + 1) 1 none] 118)) := by
        rw [store_ptr ((On.perm (List.Perm.swap ..)).head) (by simp) rfl rfl]; rfl
      simp -implicitDefEqProofs only [c130, aW, ↓aP, makes, reduceLT, reduceEqDiff, reduceAdd, ↓reduceIte, Nat.reduceBEq, load_ptr0 O.head, ap, st]
      rfl
    · simp only [rd, hlen, List.append_nil]
      exact Os
end
def popL (l : List Int) : List Int := downL (l.length - 1) (swapL l 0 (l.length - 1)) 0 (l.length - 1)
theorem popL_len (l : List Int) : (popL l).length = l.length := by unfold popL; rw [downL_len, swapL_len]
def pushL (l : List Int) (x : Int) : List Int := upL (l.length + 1) (l ++ [x]) l.length
theorem pushL_len (l : List Int) (x : Int) : (pushL l x).length = l.length + 1 := by unfold pushL; rw [upL_len]; simp
section
variable {H : List AO} {q p : Nat} {l : List Int} {z : List AV} {d : List Obj1} {id : Nat}
theorem split_last {l : List Int} {n : Nat} (h : l.length = n + 1) : l = l.take n ++ [l.getD n 0] := by
  have : l.drop n = [l.getD n 0] := by
    rw [List.drop_eq_getElem_cons (by omega), List.drop_eq_nil_of_le (by omega), List.getD_eq_getElem?_getD, List.getElem?_eq_getElem (by omega)]; rfl
  rw [← this, List.take_append_drop]
theorem hpop_tells (O : Own H (rd q p l z ++ d)) (hz : z.all whole = true) (h0 : 0 < l.length) (hl : l.length ≤ 9000) :
    ∃ H' z', cw 72 [.iface 123 (.ptr q 0)] H = some (.ret (.iface 3 (litI .i64 ((popL l).getD (l.length - 1) 0))), H') ∧ H'.length = H.length ∧ z'.all whole = true ∧ Own H' (rd q p ((popL l).take (l.length - 1)) z' ++ d) := by
  have L0 := fun id => len_inv (id := id) O hz
  have hw : IntKind.wrap .i64 ((l.length : Int) - 1) = ((l.length - 1 : Nat) : Int) := by rw [wrap_small] <;> omega
  obtain ⟨H1, s1, s2, s3⟩ := swap_inv (id := H.length) O 0 (l.length - 1) (by omega) (by omega)
  rw [show ((0 : Nat) : Int) = 0 from rfl] at s1
  obtain ⟨H2, b, t1, t2, t3⟩ := down_tells s3 hz (l.length - 1) (by rw [swapL_len]; omega) (by rw [swapL_len]; exact hl) (by rw [swapL_len]; exact h0)
  have c1 := callV_same (md := mds) (id := H1.length) rfl t1 t2
  have hsp := split_last (l := popL l) (n := l.length - 1) (by rw [popL_len]; omega)
  have t3' : Own H2 (rd q p ((popL l).take (l.length - 1) ++ [(popL l).getD (l.length - 1) 0]) z ++ d) := by rw [← hsp]; exact t3
  obtain ⟨H3, u1, u2, u3⟩ := mpop_tells t3' (by rw [List.length_take]; omega)
  have c2 : invV cw (lookM mtl) mds (.iface 123 (.ptr q 0)) "Pop" [] H2 H2.length = some (.wr (.iface 3 (litI .i64 ((popL l).getD (l.length - 1) 0))) H3) := by
    rw [invV_n mt_Pop]
    exact callV_same rfl u1 u2
  refine ⟨H3, _, cw_of fn72 (c := c72) (H := H) rfl rfl rfl rfl ?_, by omega, by simp only [List.all_cons, hz, Bool.and_true]; rfl, u3⟩
  simp -implicitDefEqProofs only [c72, aW, ↓aP, makes, reduceLT, reduceEqDiff, reduceAdd, ↓reduceIte, Nat.reduceBEq, L0, hw, s1, c1, c2]
  rfl
theorem hpush_tells {x : Int} (O : Rd H q l d) (hl : l.length < 9000) :
    ∃ H' p, cw 73 [.iface 123 (.ptr q 0), .iface 3 (litI .i64 x)] H = some (.ret (.tup []), H') ∧ H.length < H'.length ∧ H.length ≤ p ∧ Own H' (rd q p (pushL l x) [] ++ d) := by
  obtain ⟨H1, p, s1, s2, s3, s4⟩ := mpush_tells (x := x) O (by omega)
  have hq : q < H.length := by
    rcases O with ⟨_, O⟩ | ⟨p, z, _, O⟩
    · exact O.lt _ (List.mem_cons_self ..)
    · exact O.lt (q, _, 118) (List.mem_cons_self ..)
  have c1 : invV cw (lookM mtl) mds (.iface 123 (.ptr q 0)) "Push" [.iface 3 (litI .i64 x)] H H.length = some (.wr (.tup []) H1) := by
    rw [invV_n mt_Push]
    refine callV_new (r := q) rfl s1 s4.head hq ?_
    show ([AV.own p 0 (l ++ [x]).length 1 none].all (below H.length frzF)) = false
    simp only [List.all_cons, List.all_nil, Bool.and_true, show frzF = 15 + 1 from rfl, below]
    rw [s3, ← Bool.not_eq_true, Nat.blt_eq]; omega
  have hlen : (l ++ [x]).length = l.length + 1 := by simp
  have L0 := fun id => len_inv (id := id) s4 rfl
  simp only [hlen] at L0
  have hw : IntKind.wrap .i64 (((l.length + 1 : Nat) : Int) - 1) = (l.length : Int) := by rw [wrap_small] <;> omega
  obtain ⟨H2, t1, t2, t3⟩ := up_tells s4 rfl l.length (by simp) (by rw [hlen]; omega)
  have c2 := callV_same (md := mds) (id := H1.length) rfl t1 t2
  refine ⟨H2, p, cw_of fn73 (c := c73) (H := H) rfl rfl rfl rfl ?_, by omega, by omega, t3⟩
  simp -implicitDefEqProofs only [c73, aW, ↓aP, makes, reduceLT, reduceEqDiff, reduceAdd, ↓reduceIte, Nat.reduceBEq, c1, L0, hw, c2]
  rfl
end
end
section
variable {call : CallF} {mt : MtF} {md : FuncId → Md}
variable {cs : Nat → Option Nat} {cc : Option Nat}
def Sl (A : AV) (l : List Int) (o : List Obj1) : Prop :=
  (A = .sl 0 [] (some 0) ∧ l = [] ∧ o = []) ∨ ∃ p z, z.all whole = true ∧ A = .own p 0 l.length 1 none ∧ o = [(p, cellsI l ++ z, 3)]
theorem Sl.nil : Sl (.sl 0 [] (some 0)) [] [] := .inl ⟨rfl, rfl, rfl⟩
theorem Sl.own (p : Nat) (l : List Int) : Sl (.own p 0 l.length 1 none) l [(p, cellsI l, 3)] := .inr ⟨p, [], rfl, rfl, by simp⟩
theorem Sl.cellA {A : AV} {l : List Int} {o : List Obj1} (h : Sl A l o) : Ai.cellA A = true ∧ cellsOf A = [A] := by
  rcases h with ⟨rfl, _⟩ | ⟨p, z, _, rfl, _⟩ <;> exact ⟨rfl, rfl⟩
theorem Sl.lenV {A : AV} {l : List Int} {o : List Obj1} (h : Sl A l o) : Ai.lenV A = some (litI .i64 l.length) := by
  rcases h with ⟨rfl, rfl, _⟩ | ⟨p, z, _, rfl, _⟩ <;> rfl
theorem app_Sl {A : AV} {l : List Int} {o : List Obj1} {H : List AO} {d : List Obj1} {x : Int} (S : Sl A l o) (O : Own H (o ++ d)) (hl : l.length ≤ 100000) :
    ∃ H', (∀ (D : Option Nat) (fr : Fr) (k : Fr → List AO → Option Ai.S), opS (append H H.length 1 8 3 A (.sl 1 [[litI .i64 x]] (some 1))) D fr H k = k (putD fr D (.own H.length 0 (l ++ [x]).length 1 none)) H') ∧
      Own H' ((H.length, cellsI (l ++ [x]), 3) :: d) ∧ H'.length = H.length + 1 := by
  rcases S with ⟨rfl, rfl, rfl⟩ | ⟨p, z, hz, rfl, rfl⟩
  · exact ⟨H ++ [.row [litI .i64 x] 3], fun D fr k => rfl, O.new [litI .i64 x] 3, by simp⟩
  · have hp : H[p]? = some (.row (cellsI l ++ z) 3) := O.head
    have ap : append H H.length 1 8 3 (.own p 0 l.length 1 none) (.sl 1 [[litI .i64 x]] (some 1)) = some (.wr (.own H.length 0 (l.length + 1) 1 none) (setL H p .dead ++ [.row (cellsI (l ++ [x])) 3])) := by
      have h2 : (cellsI l ++ z).take (l.length * 1) = cellsI l := by rw [Nat.mul_one, List.take_left' (by simp [cellsI])]
      have h3 : Nat.ble (l.length * 1) (cellsI l ++ z).length = true := Nat.ble_eq_true_of_le (by simp [cellsI])
      have h4 : Nat.ble ((l.length + 1) * 8) 140737488355328 = true := Nat.ble_eq_true_of_le (by omega)
      simp only [append, elems, List.drop_zero, BEq.rfl, Bool.true_or, cond_true, Option.bind_some, List.length_cons, List.length_nil, Nat.zero_add, Nat.reduceBEq, cond_false, rowAt_of hp, h2, h3, h4, Bool.and_self, List.flatten_cons, List.flatten_nil, List.append_nil]
      simp [cellsI]
    have On := (Own.kill O).new (cellsI (l ++ [x])) 3
    rw [setL_len] at On
    refine ⟨setL H p .dead ++ [.row (cellsI (l ++ [x])) 3], fun D fr k => ?_, On, by simp [setL_len]⟩
    rw [ap, opS_wr]
    simp
abbrev US := List (AV × List Int × List Obj1)
def US.ok (us : US) : Prop := ∀ x ∈ us, Sl x.1 x.2.1 x.2.2
def US.objs (us : US) : List Obj1 := us.flatMap (·.2.2)
def US.ints (us : US) : List (List Int) := us.map (·.2.1)
def US.cells (us : US) : List AV := us.map (·.1)
def noU : AV × List Int × List Obj1 := (.any, [], [])
theorem US.focus : ∀ {us : US} {k : Nat} {x : AV × List Int × List Obj1}, us[k]? = some x → us.objs.Perm (x.2.2 ++ US.objs (us.set k noU))
  | [], k, x, h => by simp at h
  | y :: us, 0, x, h => by
    simp only [List.getElem?_cons_zero, sI] at h; subst h
    simp [US.objs, noU]
  | y :: us, k + 1, x, h => by
    simp only [List.getElem?_cons_succ] at h
    have ih := US.focus h
    simp only [US.objs, List.flatMap_cons, List.set_cons_succ] at ih ⊢
    refine (List.Perm.append_left _ ih).trans ?_
    rw [← List.append_assoc, ← List.append_assoc]
    exact List.Perm.append_right _ List.perm_append_comm
theorem US.refocus {us : US} {k : Nat} (x : AV × List Int × List Obj1) (hk : k < us.length) : (US.objs (us.set k x)).Perm (x.2.2 ++ US.objs (us.set k noU)) := by
  have := US.focus (us := us.set k x) (k := k) (x := x) (by rw [List.getElem?_set_self hk])
  rw [List.set_set] at this
  exact this
theorem US.ok_set {us : US} (h : us.ok) {k : Nat} {x : AV × List Int × List Obj1} (hx : Sl x.1 x.2.1 x.2.2) : US.ok (us.set k x) := by
  intro y hy
  rcases List.mem_or_eq_of_mem_set hy with hy | rfl
  · exact h y hy
  · exact hx
def addU (us : List (List Int)) (i : Int) : List Int → List (List Int)
  | [] => us
  | k :: r => addU (us.set k.toNat (us.getD k.toNat [] ++ [i])) i r
theorem addU_len (i : Int) : ∀ (r : List Int) (us : List (List Int)), (addU us i r).length = us.length
  | [], _ => rfl
  | k :: r, us => by rw [addU, addU_len]; simp
theorem load_of {H : List AO} {r off : Nat} {cs : List AV} {t : TypeId} {a : AV} (h : H[r]? = some (.row cs t)) (ha : cs[off]? = some a) : Ai.load H none (.ptr r off) = some a := by rw [load_ptr h, ha]
theorem add_loop (g A5 A6 A8 : AV) (i N u pl : Nat) (l : List Int) (zl : List AV) (m24 m23 : AV) (hi : i < 4611686018427387904) : ∀ (m n : Nat) (us : US) (d : List Obj1) (H : List AO), m + n = l.length → l.length ≤ 9000 → us.length = N → us.ok → (∀ x ∈ us, x.2.1.length ≤ 9000 + n) → (∀ k ∈ l, 0 ≤ k ∧ k < N) →
    Own H ((u, us.cells, 23) :: (pl, cellsI l ++ zl, 3) :: us.objs ++ d) →
    ∃ (us' : US) (H' : List AO), loopW (codeW cw (lookM mtl) mds c53l0) [0, 4, 5, 6, 7, 8, 23, 24, 35, 36, 37] [(0, g), (4, .own u 0 N 1 (some N)), (5, A5), (6, A6), (7, litI .i64 i), (8, A8), (23, m23), (24, m24), (35, .own pl 0 l.length 1 none), (36, litI .i64 l.length), (37, litI .i64 n)] H =
      some (EX.exit 2, [(0, g), (4, .own u 0 N 1 (some N)), (5, A5), (6, A6), (7, litI .i64 i), (8, A8), (23, m23), (24, m24), (35, .own pl 0 l.length 1 none), (36, litI .i64 l.length), (37, litI .i64 l.length), (38, litB false)], H') ∧
      us'.length = N ∧ us'.ok ∧ us'.ints = addU us.ints i (l.drop n) ∧ Own H' ((u, us'.cells, 23) :: (pl, cellsI l ++ zl, 3) :: us'.objs ++ d) := by
  intro m
  induction m with
  | zero =>
    intro n us d H h hl hN hok hus hk O
    have hn : n = l.length := by omega
    subst hn
    refine ⟨us, H, loopW_out ?_ (by simp), hN, hok, by rw [List.drop_length]; rfl, O⟩
    simp -implicitDefEqProofs only [c53l0, aW, ↓aP, makes, reduceLT, reduceEqDiff, reduceAdd, Int.lt_irrefl]
  | succ m ih =>
    intro n us d H h hl hN hok hus hk O
    have hn : n < l.length := by omega
    have hlt : (n : Int) < l.length := by omega
    have h0 : (0 : Int) ≤ n := by omega
    have hw := wrap1 (show n < 4611686018427387904 by omega)
    have hd : l.drop n = l.getD n 0 :: l.drop (n + 1) := by
      rw [List.drop_eq_getElem_cons hn, List.getD_eq_getElem?_getD, List.getElem?_eq_getElem hn]; rfl
    have hmem : l.getD n 0 ∈ l := by
      rw [List.getD_eq_getElem?_getD, List.getElem?_eq_getElem hn]; exact List.getElem_mem _
    have hkk := hk _ hmem
    have Op : H[pl]? = some (.row (cellsI l ++ zl) 3) := O.get (pl, cellsI l ++ zl, 3) (by simp)
    have hc := cellsZ_get (z := zl) hn
    generalize hK : l.getD n 0 = K at *
    obtain ⟨x, hx⟩ : ∃ x, us[K.toNat]? = some x := ⟨_, List.getElem?_eq_getElem (by omega)⟩
    have hxS : Sl x.1 x.2.1 x.2.2 := hok x (List.mem_of_getElem? hx)
    have hxl : us.cells[K.toNat]? = some x.1 := by simp [US.cells, hx]
    have O1 : Own H (x.2.2 ++ ((u, us.cells, 23) :: (pl, cellsI l ++ zl, 3) :: US.objs (us.set K.toNat noU) ++ d)) := by
      refine O.perm ?_
      have := US.focus hx
      refine (List.Perm.append_right d (List.Perm.cons _ (List.Perm.cons _ this))).trans ?_
      have e : (u, us.cells, 23) :: (pl, cellsI l ++ zl, 3) :: (x.2.2 ++ US.objs (us.set K.toNat noU)) ++ d = [(u, us.cells, 23), (pl, cellsI l ++ zl, 3)] ++ x.2.2 ++ (US.objs (us.set K.toNat noU) ++ d) := by simp
      have e2 : x.2.2 ++ ((u, us.cells, 23) :: (pl, cellsI l ++ zl, 3) :: US.objs (us.set K.toNat noU) ++ d) = x.2.2 ++ [(u, us.cells, 23), (pl, cellsI l ++ zl, 3)] ++ (US.objs (us.set K.toNat noU) ++ d) := by simp
      rw [e, e2]
      exact List.Perm.append_right _ List.perm_append_comm
    have hlx := hus x (List.mem_of_getElem? hx)
    obtain ⟨H1, ap, O2, hl1⟩ := app_Sl (x := (i : Int)) hxS O1 (by omega)
    let y : AV × List Int × List Obj1 := (.own H.length 0 (x.2.1 ++ [(i : Int)]).length 1 none, x.2.1 ++ [(i : Int)], [(H.length, cellsI (x.2.1 ++ [(i : Int)]), 3)])
    have hy : Sl y.1 y.2.1 y.2.2 := Sl.own _ _
    have O3 := ((O2.perm (List.Perm.swap ..)).set (US.cells (us.set K.toNat y)) 23)
    have O4 : Own (setL H1 u (.row (US.cells (us.set K.toNat y)) 23)) ((u, US.cells (us.set K.toNat y), 23) :: (pl, cellsI l ++ zl, 3) :: US.objs (us.set K.toNat y) ++ d) := by
      refine O3.perm (List.Perm.cons _ ?_)
      have := (US.refocus y (show K.toNat < us.length by omega)).symm
      refine List.Perm.trans ?_ (List.Perm.append_right d (List.Perm.cons (pl, cellsI l ++ zl, 3) this))
      exact List.Perm.swap ..
    have st : storeAt H1 1 (.ptr u K.toNat) (.own H.length 0 (x.2.1 ++ [(i : Int)]).length 1 none) = some (setL H1 u (.row (US.cells (us.set K.toNat y)) 23)) := by
      rw [store_ptr (O2.perm (List.Perm.swap ..)).head (by simp [US.cells]; omega) rfl rfl]
      simp [US.cells, y]
    obtain ⟨us', H', L, q1, q2, q3, q4⟩ := ih (n + 1) (us.set K.toNat y) d _ (by omega) hl (by simpa using hN) (US.ok_set hok hy) (fun w hw => by
      rcases List.mem_or_eq_of_mem_set hw with hw | rfl
      · have := hus w hw; omega
      · simp [y]; omega) hk O4
    refine ⟨us', H', loopW_round ?_ L, q1, q2, ?_, q4⟩
    · have hK1 : K < (N : Int) := hkk.2
      simp -implicitDefEqProofs only [c53l0, aW, ↓aP, makes, reduceLT, reduceEqDiff, reduceAdd, hlt, h0, and_self, Nat.mul_one, load_of Op hc, hkk.1, hK1, load_of O.head hxl, ap, st, hw]
    · rw [q3, hd, addU]
      congr 1
      have : us.ints.getD K.toNat [] = x.2.1 := by simp [US.ints, List.getD_eq_getElem?_getD, hx]
      rw [this]
      simp [US.ints, y]
end
section
variable {call : CallF} {mt : MtF} {md : FuncId → Md}
variable {cs : Nat → Option Nat} {cc : Option Nat}
theorem addU_short (i : Int) : ∀ (r : List Int) (us : List (List Int)) (B : Nat), (∀ x ∈ us, x.length ≤ B) → ∀ x ∈ addU us i r, x.length ≤ B + r.length
  | [], us, B, h, x, hx => by have := h x hx; simpa using this
  | k :: r, us, B, h, x, hx => by
    rw [addU] at hx
    have := addU_short i r (us.set k.toNat (us.getD k.toNat [] ++ [i])) (B + 1) (fun y hy => by
      rcases List.mem_or_eq_of_mem_set hy with hy | rfl
      · have := h y hy; omega
      · simp only [List.length_append, List.length_cons, List.length_nil]
        have : (us.getD k.toNat []).length ≤ B := by
          rw [List.getD_eq_getElem?_getD]
          cases hk : us[k.toNat]? with
          | none => simp
          | some y => exact h y (List.mem_of_getElem? hk)
        omega) x hx
    simp only [List.length_cons]; omega
def build (g : List (List Int)) : Nat → Nat → List (List Int) × List Int × List Int → List (List Int) × List Int × List Int
  | 0, _, s => s
  | m + 1, n, s => build g m (n + 1) (addU s.1 n (need g n), s.2.1.set n (need g n).length, if need g n = [] then s.2.2 ++ [(n : Int)] else s.2.2)
theorem cellsI_set (l : List Int) (n : Nat) (x : Int) : (cellsI l).set n (litI .i64 x) = cellsI (l.set n x) := by simp [cellsI]
theorem build_loop (g : List (List Int)) (hf : fewG g = true) (u w q : Nat) : ∀ (m n : Nat) (us : US) (ws r : List Int) (R : AV) (ro : List Obj1) (H : List AO), m + n = g.length → us.length = g.length → us.ok → (∀ x ∈ us.ints, x.length ≤ 100 * n) → ws.length = g.length → r.length ≤ n → Sl R r ro →
    Own H ((u, us.cells, 23) :: (w, cellsI ws, 3) :: (q, [R], 118) :: (ro ++ us.objs)) →
    ∃ (us' : US) (R' : AV) (ro' : List Obj1) (H' : List AO), loopW (codeW cw (lookM mtl) mds c53l1) [0, 4, 5, 6, 23, 24] [(0, gX cs cc g), (4, .own u 0 g.length 1 (some g.length)), (5, .own w 0 g.length 1 (some g.length)), (6, .ptr q 0), (23, litI .i64 g.length), (24, litI .i64 n)] H =
      some (EX.exit 0, [(0, gX cs cc g), (4, .own u 0 g.length 1 (some g.length)), (5, .own w 0 g.length 1 (some g.length)), (6, .ptr q 0), (23, litI .i64 g.length), (24, litI .i64 g.length), (25, litB false)], H') ∧
      us'.length = g.length ∧ us'.ok ∧ us'.ints = (build g m n (us.ints, ws, r)).1 ∧ Sl R' (build g m n (us.ints, ws, r)).2.2 ro' ∧
      Own H' ((u, us'.cells, 23) :: (w, cellsI (build g m n (us.ints, ws, r)).2.1, 3) :: (q, [R'], 118) :: (ro' ++ us'.objs)) := by
  have h20 := few_len hf
  intro m
  induction m with
  | zero =>
    intro n us ws r R ro H h hus hok hsh hws hr hS O
    have hn : n = g.length := by omega
    subst hn
    refine ⟨us, R, ro, H, loopW_out ?_ (by simp), hus, hok, rfl, hS, O⟩
    simp -implicitDefEqProofs only [c53l1, aW, ↓aP, makes, reduceLT, reduceEqDiff, reduceAdd, Int.lt_irrefl]
  | succ m ih =>
    intro n us ws r R ro H h hus hok hsh hws hr hS O
    have hn : n < g.length := by omega
    have hlt : (n : Int) < g.length := by omega
    have h0 : (0 : Int) ≤ n := by omega
    have hw := wrap1 (show n < 4611686018427387904 by omega)
    obtain ⟨row, hrow⟩ : ∃ row, g[n]? = some row := ⟨_, List.getElem?_eq_getElem hn⟩
    have hneed : needG g row = need g n := by unfold need; rw [hrow]
    have hr40 := few_row hf hrow
    have n40 := need_40 hf n
    rw [build]
    by_cases hnil : needG g row = []
    · have hnd : need g n = [] := hneed ▸ hnil
      rw [hnd, if_pos rfl]
      have hc := fun id => needs_call0 (cs := cs) (cc := cc) g n row hrow (by omega) H id hnil
      have O1 := ((O.perm (List.Perm.swap ..)).set (cellsI (ws.set n 0)) 3)
      have st : storeAt H 1 (.ptr w n) (litI .i64 0) = some (setL H w (.row (cellsI (ws.set n 0)) 3)) := by
        rw [store_ptr (O.perm (List.Perm.swap ..)).head (by rw [cellsI_len]; omega) rfl rfl, cellsI_set]
      generalize setL H w (.row (cellsI (ws.set n 0)) 3) = H1 at O1 st
      have O2 : Own H1 (ro ++ ((q, [R], 118) :: (u, us.cells, 23) :: (w, cellsI (ws.set n 0), 3) :: us.objs)) := by
        refine O1.perm ?_
        have e1 : (w, cellsI (ws.set n 0), 3) :: (u, us.cells, 23) :: (q, [R], 118) :: (ro ++ us.objs) = [(w, cellsI (ws.set n 0), 3), (u, us.cells, 23), (q, [R], 118)] ++ ro ++ us.objs := by simp
        have e2 : ro ++ ((q, [R], 118) :: (u, us.cells, 23) :: (w, cellsI (ws.set n 0), 3) :: us.objs) = ro ++ [(q, [R], 118), (u, us.cells, 23), (w, cellsI (ws.set n 0), 3)] ++ us.objs := by simp
        rw [e1, e2]
        refine List.Perm.append_right _ (List.perm_append_comm.trans (List.Perm.append_left _ ?_))
        exact List.reverse_perm [(w, cellsI (ws.set n 0), 3), (u, us.cells, 23), (q, [R], 118)] |>.symm
      obtain ⟨H2, ap, O3, hl2⟩ := app_Sl (x := (n : Int)) hS O2 (by omega)
      have O4 := ((O3.perm (List.Perm.swap ..)).set [.own H1.length 0 (r ++ [(n : Int)]).length 1 none] 118)
      have st2 : storeAt H2 1 (.ptr q 0) (.own H1.length 0 (r ++ [(n : Int)]).length 1 none) = some (setL H2 q (.row [.own H1.length 0 (r ++ [(n : Int)]).length 1 none] 118)) := by
        rw [store_ptr (O3.perm (List.Perm.swap ..)).head (by simp) rfl rfl]; rfl
      generalize setL H2 q (.row [.own H1.length 0 (r ++ [(n : Int)]).length 1 none] 118) = H3 at O4 st2
      have O5 : Own H3 ((u, us.cells, 23) :: (w, cellsI (ws.set n 0), 3) :: (q, [.own H1.length 0 (r ++ [(n : Int)]).length 1 none], 118) :: ([(H1.length, cellsI (r ++ [(n : Int)]), 3)] ++ us.objs)) := by
        refine O4.perm ?_
        have e1 : (q, [AV.own H1.length 0 (r ++ [(n : Int)]).length 1 none], 118) :: (H1.length, cellsI (r ++ [(n : Int)]), 3) :: (u, us.cells, 23) :: (w, cellsI (ws.set n 0), 3) :: us.objs
          = ([(q, [AV.own H1.length 0 (r ++ [(n : Int)]).length 1 none], 118), (H1.length, cellsI (r ++ [(n : Int)]), 3)] ++ [(u, us.cells, 23), (w, cellsI (ws.set n 0), 3)]) ++ us.objs := by simp
        have e2 : (u, us.cells, 23) :: (w, cellsI (ws.set n 0), 3) :: (q, [AV.own H1.length 0 (r ++ [(n : Int)]).length 1 none], 118) :: ([(H1.length, cellsI (r ++ [(n : Int)]), 3)] ++ us.objs)
          = ([(u, us.cells, 23), (w, cellsI (ws.set n 0), 3)] ++ [(q, [AV.own H1.length 0 (r ++ [(n : Int)]).length 1 none], 118), (H1.length, cellsI (r ++ [(n : Int)]), 3)]) ++ us.objs := by simp
        rw [e1, e2]
        exact List.Perm.append_right _ List.perm_append_comm
      obtain ⟨us', R', ro', H', L, q1, q2, q3, q4, q5⟩ := ih (n + 1) us (ws.set n 0) (r ++ [(n : Int)]) _ _ H3 (by omega) hus hok (fun x hx => by have := hsh x hx; omega) (by simpa using hws) (by simp; omega) (Sl.own _ _) O5
      refine ⟨us', R', ro', H', loopW_round ?_ L, q1, q2, q3, q4, q5⟩
      have Ld : Ai.load H1 none (.ptr q 0) = some R := load_ptr0 (O2.get (q, [R], 118) (by simp))
      have Li : loopW (codeW cw (lookM mtl) mds c53l0) [0, 4, 5, 6, 7, 8, 23, 24, 35, 36, 37] [(0, gX cs cc g), (4, .own u 0 g.length 1 (some g.length)), (5, .own w 0 g.length 1 (some g.length)), (6, .ptr q 0), (7, litI .i64 n), (8, .sl 0 [] (some 0)), (23, litI .i64 g.length), (24, litI .i64 n), (35, .sl 0 [] (some 0)), (36, litI .i64 0), (37, litI .i64 0)] H1 =
        some (EX.exit 2, [(0, gX cs cc g), (4, .own u 0 g.length 1 (some g.length)), (5, .own w 0 g.length 1 (some g.length)), (6, .ptr q 0), (7, litI .i64 n), (8, .sl 0 [] (some 0)), (23, litI .i64 g.length), (24, litI .i64 n), (35, .sl 0 [] (some 0)), (36, litI .i64 0), (37, litI .i64 0), (38, litB false)], H1) := by
        refine loopW_out ?_ (by simp)
        simp -implicitDefEqProofs only [c53l0, aW, ↓aP, makes, reduceLT, reduceEqDiff, reduceAdd, Int.lt_irrefl]
      simp -implicitDefEqProofs only [c53l1, aW, ↓aP, makes, reduceLT, reduceEqDiff, reduceAdd, hlt, h0, and_self, Nat.mul_one, hc, List.length_nil, Int.ofNat_zero, st, Li, Ld, ap, st2, hw]
    · have hnd : ¬ need g n = [] := fun e => hnil (hneed.trans e)
      rw [if_neg hnd]
      obtain ⟨z, hc⟩ := needs_call1 (cs := cs) (cc := cc) g n row hrow (by omega) H H.length hnil
      rw [hneed] at hc
      have O1 := O.new (cellsI (need g n) ++ z) 3
      generalize hH1 : H ++ [AO.row (cellsI (need g n) ++ z) 3] = H1 at O1
      have Ow : Own H1 ((w, cellsI ws, 3) :: (H.length, cellsI (need g n) ++ z, 3) :: (u, us.cells, 23) :: (q, [R], 118) :: (ro ++ us.objs)) := by
        refine O1.perm ?_
        refine (List.Perm.cons _ (List.Perm.swap ..)).trans (List.Perm.swap ..)
      have O2 := Ow.set (cellsI (ws.set n (need g n).length)) 3
      have st : storeAt H1 1 (.ptr w n) (litI .i64 (need g n).length) = some (setL H1 w (.row (cellsI (ws.set n (need g n).length)) 3)) := by
        rw [store_ptr Ow.head (by rw [cellsI_len]; omega) rfl rfl, cellsI_set]
      generalize setL H1 w (.row (cellsI (ws.set n (need g n).length)) 3) = H2 at O2 st
      have O3 : Own H2 ((u, us.cells, 23) :: (H.length, cellsI (need g n) ++ z, 3) :: us.objs ++ ((w, cellsI (ws.set n (need g n).length), 3) :: (q, [R], 118) :: ro)) := by
        refine O2.perm ?_
        have e1 : (w, cellsI (ws.set n (need g n).length), 3) :: (H.length, cellsI (need g n) ++ z, 3) :: (u, us.cells, 23) :: (q, [R], 118) :: (ro ++ us.objs)
          = ([(w, cellsI (ws.set n (need g n).length), 3)] ++ [(H.length, cellsI (need g n) ++ z, 3), (u, us.cells, 23)]) ++ ([(q, [R], 118)] ++ ro ++ us.objs) := by simp
        have e2 : (u, us.cells, 23) :: (H.length, cellsI (need g n) ++ z, 3) :: us.objs ++ ((w, cellsI (ws.set n (need g n).length), 3) :: (q, [R], 118) :: ro)
          = [(u, us.cells, 23), (H.length, cellsI (need g n) ++ z, 3)] ++ (us.objs ++ ([(w, cellsI (ws.set n (need g n).length), 3)] ++ ([(q, [R], 118)] ++ ro))) := by simp
        rw [e1, e2]
        refine (List.Perm.append_right _ (List.perm_append_comm.trans (List.Perm.append_right _ (List.Perm.swap ..)))).trans ?_
        rw [List.append_assoc]
        refine List.Perm.append_left _ ?_
        refine (List.Perm.append_left _ List.perm_append_comm).trans ?_
        have := List.Perm.append_right (l₁ := [(w, cellsI (ws.set n (need g n).length), 3)] ++ us.objs) (l₂ := us.objs ++ [(w, cellsI (ws.set n (need g n).length), 3)]) ([(q, [R], 118)] ++ ro) List.perm_append_comm
        simpa only [List.append_assoc] using this
      obtain ⟨us1, H3, L1, p1, p2, p3, p4⟩ := add_loop (gX cs cc g) (.own w 0 g.length 1 (some g.length)) (.ptr q 0) (.own H.length 0 (need g n).length 1 none) n g.length u H.length (need g n) z (litI .i64 n) (litI .i64 g.length) (by omega) (need g n).length 0 us _ H2 (by omega) (by omega) hus hok
        (fun x hx => by have := hsh x.2.1 (List.mem_map.2 ⟨x, hx, rfl⟩); omega) (fun k hk => need_rng _ _ hk) O3
      rw [show ((0 : Nat) : Int) = 0 from rfl] at L1
      rw [List.drop_zero] at p3
      have O5 : Own H3 ((u, us1.cells, 23) :: (w, cellsI (ws.set n (need g n).length), 3) :: (q, [R], 118) :: (ro ++ us1.objs)) := by
        have : Own H3 ((u, us1.cells, 23) :: us1.objs ++ ((w, cellsI (ws.set n (need g n).length), 3) :: (q, [R], 118) :: ro)) := (p4.perm (List.Perm.swap ..)).tail
        refine this.perm (List.Perm.cons _ ?_)
        refine List.perm_append_comm.trans ?_
        simp
      obtain ⟨us', R', ro', H', L, q1, q2, q3, q4, q5⟩ := ih (n + 1) us1 (ws.set n (need g n).length) r R ro H3 (by omega) p1 p2 (fun x hx => by
        rw [p3] at hx
        have := addU_short n (need g n) us.ints (100 * n) hsh x hx
        omega) (by simpa using hws) (by omega) hS O5
      rw [p3] at q3 q4 q5
      refine ⟨us', R', ro', H', loopW_round ?_ L, q1, q2, q3, q4, q5⟩
      have hz : (((need g n).length : Int) == 0) = false := by
        rw [beq_eq_false_iff_ne]
        have : 0 < (need g n).length := List.length_pos_iff.2 hnd
        omega
      simp -implicitDefEqProofs only [c53l1, aW, ↓aP, makes, reduceLT, reduceEqDiff, reduceAdd, hlt, h0, and_self, Nat.mul_one, hc, hH1, st, L1, hz, hw]
end
section
variable {call : CallF} {mt : MtF} {md : FuncId → Md}
variable {cs : Nat → Option Nat} {cc : Option Nat}
theorem swapL_perm (l : List Int) (i j : Nat) (hi : i < l.length) (hj : j < l.length) : (swapL l i j).Perm l := by
  unfold swapL
  rw [List.getD_eq_getElem?_getD, List.getD_eq_getElem?_getD, List.getElem?_eq_getElem hi, List.getElem?_eq_getElem hj]
  simp only [Option.getD_some]
  exact List.set_set_perm hi hj
theorem downL_perm : ∀ (k : Nat) (l : List Int) (i n : Nat), n ≤ l.length → i < l.length → (downL k l i n).Perm l
  | 0, l, _, _, _, _ => List.Perm.refl _
  | k + 1, l, i, n, hn, hi => by
    rw [downL]
    by_cases hc : n ≤ 2 * i + 1
    · rw [if_pos hc]
    · rw [if_neg hc]
      generalize hj : (if 2 * i + 2 < n ∧ l.getD (2 * i + 2) 0 < l.getD (2 * i + 1) 0 then 2 * i + 2 else 2 * i + 1) = j
      have hjn : j < n := by rw [← hj]; split <;> omega
      by_cases hs : l.getD j 0 < l.getD i 0
      · rw [if_pos hs]
        exact (downL_perm k _ j n (by rw [swapL_len]; exact hn) (by rw [swapL_len]; omega)).trans (swapL_perm l i j hi (by omega))
      · rw [if_neg hs]
theorem upL_perm : ∀ (k : Nat) (l : List Int) (j : Nat), j < l.length → (upL k l j).Perm l
  | 0, l, _, _ => List.Perm.refl _
  | k + 1, l, j, hj => by
    rw [upL]
    by_cases h0 : j = 0
    · rw [if_pos h0]
    · rw [if_neg h0]
      by_cases hs : l.getD j 0 < l.getD ((j - 1) / 2) 0
      · rw [if_pos hs]
        exact (upL_perm k _ _ (by rw [swapL_len]; omega)).trans (swapL_perm l _ j (by omega) hj)
      · rw [if_neg hs]
theorem popL_perm {l : List Int} (h : 0 < l.length) : (popL l).Perm l :=
  (downL_perm _ _ _ _ (by rw [swapL_len]; omega) (by rw [swapL_len]; exact h)).trans (swapL_perm l 0 _ h (by omega))
theorem pop_split {l : List Int} (h : 0 < l.length) : ((popL l).take (l.length - 1) ++ [(popL l).getD (l.length - 1) 0]).Perm l := by
  rw [← split_last (l := popL l) (n := l.length - 1) (by rw [popL_len]; omega)]
  exact popL_perm h
theorem pushL_perm (l : List Int) (x : Int) : (pushL l x).Perm (l ++ [x]) := upL_perm _ _ _ (by simp)
def relax : List Int → List Int → List Int → List Int × List Int
  | ws, h, [] => (ws, h)
  | ws, h, k :: r => relax (ws.set k.toNat (ws.getD k.toNat 0 - 1)) (if ws.getD k.toNat 0 - 1 = 0 then pushL h k else h) r
theorem Rd.of_Sl {H : List AO} {q : Nat} {A : AV} {l : List Int} {o d : List Obj1} (S : Sl A l o) (O : Own H ((q, [A], 118) :: (o ++ d))) : Rd H q l d := by
  rcases S with ⟨rfl, rfl, rfl⟩ | ⟨p, z, hz, rfl, rfl⟩
  · exact .inl ⟨rfl, O⟩
  · exact .inr ⟨p, z, hz, O⟩
theorem relax_loop (g : AV) (N u w q : Nat) (l : List Int) (A11 A12 A74 : AV) (hl : l.length ≤ 9000) (hN : N ≤ 30) (hk : ∀ k ∈ l, 0 ≤ k ∧ k < N) :
    ∀ (m n : Nat) (ws h : List Int) (A : AV) (o d : List Obj1) (B : Nat) (H : List AO), m + n = l.length → ws.length = N → h.length + m < 9000 → (∀ x ∈ ws, -(B : Int) ≤ x ∧ x ≤ 9000) → B + m ≤ 1000000 → Sl A h o →
    (∀ H', Own H' d → ∀ j : Nat, j < l.length → ∃ c, iadr 1 A74 (litI .i64 j) = some c ∧ Ai.load H' none c = some (litI .i64 (l.getD j 0))) →
    Own H ((w, cellsI ws, 3) :: (q, [A], 118) :: (o ++ d)) →
    ∃ (A' : AV) (o' : List Obj1) (H' : List AO), loopW (codeW cw (lookM mtl) mds c53l2) [0, 4, 5, 6, 11, 12, 74, 75, 76] [(0, g), (4, .own u 0 N 1 (some N)), (5, .own w 0 N 1 (some N)), (6, .ptr q 0), (11, A11), (12, A12), (74, A74), (75, litI .i64 l.length), (76, litI .i64 n)] H =
      some (EX.exit 6, [(0, g), (4, .own u 0 N 1 (some N)), (5, .own w 0 N 1 (some N)), (6, .ptr q 0), (11, A11), (12, A12), (74, A74), (75, litI .i64 l.length), (76, litI .i64 l.length), (77, litB false)], H') ∧
      Sl A' (relax ws h (l.drop n)).2 o' ∧ Own H' ((w, cellsI (relax ws h (l.drop n)).1, 3) :: (q, [A'], 118) :: (o' ++ d)) ∧ (relax ws h (l.drop n)).1.length = N ∧ (∀ x ∈ (relax ws h (l.drop n)).1, -((B + m : Nat) : Int) ≤ x ∧ x ≤ 9000) := by
  intro m
  induction m with
  | zero =>
    intro n ws h A o d B H hm hws hh hb hB S hA O
    have hn : n = l.length := by omega
    subst hn
    rw [List.drop_length]
    refine ⟨A, o, H, loopW_out ?_ (by simp), S, O, hws, by simpa [relax] using hb⟩
    simp -implicitDefEqProofs only [c53l2, aW, ↓aP, makes, reduceLT, reduceEqDiff, reduceAdd, Int.lt_irrefl]
  | succ m ih =>
    intro n ws h A o d B H hm hws hh hb hB S hA O
    have hn : n < l.length := by omega
    have hlt : (n : Int) < l.length := by omega
    have hw := wrap1 (show n < 4611686018427387904 by omega)
    have hd : l.drop n = l.getD n 0 :: l.drop (n + 1) := by
      rw [List.drop_eq_getElem_cons hn, List.getD_eq_getElem?_getD, List.getElem?_eq_getElem hn]; rfl
    have hmem : l.getD n 0 ∈ l := by
      rw [List.getD_eq_getElem?_getD, List.getElem?_eq_getElem hn]; exact List.getElem_mem _
    have hkk := hk _ hmem
    have Od : Own H d := O.tail.tail.sub (List.sublist_append_right ..)
    obtain ⟨c, hc1, hc2⟩ := hA H Od n hn
    rw [hd]
    generalize l.getD n 0 = K at *
    have hK1 : K < (N : Int) := hkk.2
    have hKl : K.toNat < ws.length := by omega
    have hget : (cellsI ws)[K.toNat]? = some (litI .i64 (ws.getD K.toNat 0)) := by rw [cellsI_get, getI hKl]; rfl
    have hbk : -(B : Int) ≤ ws.getD K.toNat 0 ∧ ws.getD K.toNat 0 ≤ 9000 := hb _ (by rw [List.getD_eq_getElem?_getD, List.getElem?_eq_getElem hKl]; exact List.getElem_mem _)
    have hw2 : IntKind.wrap .i64 (ws.getD K.toNat 0 - 1) = ws.getD K.toNat 0 - 1 := Go.Ai.wrap_small (by omega) (by omega)
    have O1 := O.set (cellsI (ws.set K.toNat (ws.getD K.toNat 0 - 1))) 3
    have st : storeAt H 1 (.ptr w K.toNat) (litI .i64 (ws.getD K.toNat 0 - 1)) = some (setL H w (.row (cellsI (ws.set K.toNat (ws.getD K.toNat 0 - 1))) 3)) := by
      rw [store_ptr O.head (by rw [cellsI_len]; omega) rfl rfl, cellsI_set]
    generalize setL H w (.row (cellsI (ws.set K.toNat (ws.getD K.toNat 0 - 1))) 3) = H1 at O1 st
    have hget2 : (cellsI (ws.set K.toNat (ws.getD K.toNat 0 - 1)))[K.toNat]? = some (litI .i64 (ws.getD K.toNat 0 - 1)) := by
      rw [cellsI_get, List.getElem?_set_self hKl]; rfl
    have hb' : ∀ x ∈ ws.set K.toNat (ws.getD K.toNat 0 - 1), -((B + 1 : Nat) : Int) ≤ x ∧ x ≤ 9000 := by
      intro x hx
      rcases List.mem_or_eq_of_mem_set hx with hx | rfl
      · have := hb x hx; omega
      · omega
    simp only [relax]
    by_cases hz : ws.getD K.toNat 0 - 1 = 0
    · rw [if_pos hz]
      have hzb : (ws.getD K.toNat 0 - 1 == 0) = true := by simpa using hz
      have OR : Own H1 ((q, [A], 118) :: (o ++ ((w, cellsI (ws.set K.toNat (ws.getD K.toNat 0 - 1)), 3) :: d))) := by
        refine (O1.perm (List.Perm.swap ..)).perm (List.Perm.cons _ ?_)
        exact List.perm_middle.symm
      obtain ⟨H2, p, s1, s2, s3, s4⟩ := hpush_tells (x := K) (Rd.of_Sl S OR) (by omega)
      have c1 : callV cw mds 73 [.iface 123 (.ptr q 0), .iface 3 (litI .i64 K)] H1 H1.length = some (.wr (.tup []) H2) := by
        refine callV_new (r := q) rfl s1 s4.head (OR.lt _ (List.mem_cons_self ..)) ?_
        show ([AV.own p 0 (pushL h K).length 1 none].all (below H1.length frzF)) = false
        simp only [List.all_cons, List.all_nil, Bool.and_true, show frzF = 15 + 1 from rfl, below]
        rw [← Bool.not_eq_true, Nat.blt_eq]; omega
      have O3 : Own H2 ((w, cellsI (ws.set K.toNat (ws.getD K.toNat 0 - 1)), 3) :: (q, [.own p 0 (pushL h K).length 1 none], 118) :: ([(p, cellsI (pushL h K) ++ [], 3)] ++ d)) := by
        refine s4.perm ?_
        exact ((List.Perm.cons _ (List.Perm.swap ..)).trans (List.Perm.swap ..))
      obtain ⟨A', o', H', L, q1, q2, q3, q4⟩ := ih (n + 1) (ws.set K.toNat (ws.getD K.toNat 0 - 1)) (pushL h K) _ _ d (B + 1) H2 (by omega) (by simpa using hws) (by rw [pushL_len]; omega) hb' (by omega) (.inr ⟨p, [], rfl, rfl, rfl⟩) hA O3
      refine ⟨A', o', H', loopW_round ?_ L, q1, q2, q3, by rw [show B + (m + 1) = B + 1 + m by omega]; exact q4⟩
      simp -implicitDefEqProofs only [c53l2, aW, ↓aP, makes, reduceLT, reduceEqDiff, reduceAdd, hlt, hc1, hc2, hkk.1, hK1, and_self, Nat.mul_one, load_of O.head hget, hw2, st, load_of O1.head hget2, hzb, c1, hw]
    · rw [if_neg hz]
      have hzb : (ws.getD K.toNat 0 - 1 == 0) = false := by simpa using hz
      obtain ⟨A', o', H', L, q1, q2, q3, q4⟩ := ih (n + 1) (ws.set K.toNat (ws.getD K.toNat 0 - 1)) h A o d (B + 1) H1 (by omega) (by simpa using hws) (by omega) hb' (by omega) S hA O1
      refine ⟨A', o', H', loopW_round ?_ L, q1, q2, q3, by rw [show B + (m + 1) = B + 1 + m by omega]; exact q4⟩
      simp -implicitDefEqProofs only [c53l2, aW, ↓aP, makes, reduceLT, reduceEqDiff, reduceAdd, hlt, hc1, hc2, hkk.1, hK1, and_self, Nat.mul_one, load_of O.head hget, hw2, st, load_of O1.head hget2, hzb, hw]
end
section
variable {call : CallF} {mt : MtF} {md : FuncId → Md}
variable {cs : Nat → Option Nat} {cc : Option Nat}
def mu (ws h : List Int) : Nat := ws.countP (fun z => decide (0 < z)) + h.length
theorem relax_mu : ∀ (r ws h : List Int), (∀ k ∈ r, k.toNat < ws.length) → mu (relax ws h r).1 (relax ws h r).2 ≤ mu ws h
  | [], ws, h, _ => Nat.le_refl _
  | k :: r, ws, h, hk => by
    rw [relax]
    have hkl := hk k (List.mem_cons_self ..)
    refine Nat.le_trans (relax_mu r _ _ (fun j hj => by rw [List.length_set]; exact hk j (List.mem_cons_of_mem _ hj))) ?_
    unfold mu
    rw [List.countP_set hkl]
    have hg : ws.getD k.toNat 0 = ws[k.toNat] := by rw [List.getD_eq_getElem?_getD, List.getElem?_eq_getElem hkl]; rfl
    rw [hg]
    have hpos : ws[k.toNat] > 0 → 0 < ws.countP (fun z => decide (0 < z)) := fun h => List.countP_pos_iff.2 ⟨_, List.getElem_mem hkl, by simpa using h⟩
    by_cases h1 : ws[k.toNat] - 1 = 0
    · have h2 : 0 < ws[k.toNat] := by omega
      have h3 : ¬ 0 < ws[k.toNat] - 1 := by omega
      have := hpos h2
      rw [if_pos h1]
      simp only [h2, h3, decide_true, decide_false, if_true, Bool.false_eq_true, if_false, pushL_len]
      omega
    · rw [if_neg h1]
      by_cases h2 : 0 < ws[k.toNat]
      · have h3 : 0 < ws[k.toNat] - 1 := by omega
        have := hpos h2
        simp only [h2, h3, decide_true, if_true]
        omega
      · have h3 : ¬ 0 < ws[k.toNat] - 1 := by omega
        simp only [h2, h3, decide_false, Bool.false_eq_true, if_false]
        omega
def kahn (us : List (List Int)) : Nat → List Int → List Int → List Int → List Int
  | 0, _, _, out => out
  | m + 1, ws, h, out => if h = [] then out else
    kahn us m (relax ws ((popL h).take (h.length - 1)) (us.getD ((popL h).getD (h.length - 1) 0).toNat [])).1 (relax ws ((popL h).take (h.length - 1)) (us.getD ((popL h).getD (h.length - 1) 0).toNat [])).2 (out ++ [(popL h).getD (h.length - 1) 0])
theorem relax_mem : ∀ (r ws h : List Int) (P : Int → Prop), (∀ x ∈ h, P x) → (∀ x ∈ r, P x) → ∀ x ∈ (relax ws h r).2, P x
  | [], ws, h, P, h1, h2 => h1
  | k :: r, ws, h, P, h1, h2 => by
    rw [relax]
    refine relax_mem r _ _ P (fun x hx => ?_) (fun x hx => h2 x (List.mem_cons_of_mem _ hx))
    split at hx
    · rcases List.mem_append.1 ((pushL_perm h k).mem_iff.1 hx) with hx | hx
      · exact h1 x hx
      · simp only [List.mem_singleton] at hx; subst hx; exact h2 _ (List.mem_cons_self ..)
    · exact h1 x hx
theorem len_call {H : List AO} {A : AV} {l : List Int} {o d : List Obj1} (S : Sl A l o) (O : Own H (o ++ d)) (id : Nat) : callV cw mds 71 [A] H id = some (.val (litI .i64 l.length) none) := by
  rcases S with ⟨rfl, rfl, rfl⟩ | ⟨p, z, hz, rfl, rfl⟩
  · refine callV_flat (p := ([.sl 0 [] (some 0)], [])) rfl rfl (H' := []) ?_
    refine cw_of fn71 (c := c71) rfl rfl rfl rfl ?_
    simp -implicitDefEqProofs only [c71, aW, ↓aP, makes, reduceLT, reduceEqDiff, reduceAdd]
    rfl
  · refine callV_flat (p := ([rowC l none], [p])) rfl ?_ (len_tells l none)
    have hp : H[p]? = some (.row (cellsI l ++ z) 3) := O.head
    simp only [mapL, show frzF = 14 + 2 from rfl, frz_ints hp hz rfl, Option.bind_some]
    rfl
theorem Sl.elem {A : AV} {l : List Int} {o d : List Obj1} (S : Sl A l o) {H : List AO} (O : Own H (o ++ d)) {j : Nat} (hj : j < l.length) : ∃ c, iadr 1 A (litI .i64 j) = some c ∧ Ai.load H none c = some (litI .i64 (l.getD j 0)) := by
  rcases S with ⟨rfl, rfl, rfl⟩ | ⟨p, z, hz, rfl, rfl⟩
  · simp at hj
  · refine ⟨.ptr p j, ?_, load_of O.head (cellsZ_get hj)⟩
    rw [iadr_own, if_pos ⟨by omega, by omega⟩]
    simp
theorem kahn_loop (g : AV) (N u w q : Nat) (us : US) (hN : N ≤ 30) (hus : us.length = N) (hok : us.ok) (hsh : ∀ x ∈ us.ints, x.length ≤ 8000) (hrng : ∀ x ∈ us.ints, ∀ k ∈ x, 0 ≤ k ∧ k < (N : Int)) :
    ∀ (m : Nat) (ws h out : List Int) (A Ao : AV) (o oo : List Obj1) (B : Nat) (H : List AO), mu ws h ≤ m → m ≤ 70 → ws.length = N → (∀ x ∈ h, 0 ≤ x ∧ x < (N : Int)) → (∀ x ∈ ws, -(B : Int) ≤ x ∧ x ≤ 9000) → B + 9000 * m ≤ 1000000 → out.length + m ≤ 9000 → Sl A h o → Sl Ao out oo →
    Own H ((w, cellsI ws, 3) :: (q, [A], 118) :: (o ++ (oo ++ (u, us.cells, 23) :: us.objs))) →
    ∃ (A' Ao' : AV) (oo' d' : List Obj1) (H' : List AO), loopW (codeW cw (lookM mtl) mds c53l3) [0, 4, 5, 6, 11, 12] [(0, g), (4, .own u 0 N 1 (some N)), (5, .own w 0 N 1 (some N)), (6, .ptr q 0), (11, .fn (.func 71) [] []), (12, Ao)] H =
      some (EX.exit 4, [(0, g), (4, .own u 0 N 1 (some N)), (5, .own w 0 N 1 (some N)), (6, .ptr q 0), (11, .fn (.func 71) [] []), (12, Ao'), (63, litB false)], H') ∧
      Sl Ao' (kahn us.ints m ws h out) oo' ∧ Own H' (oo' ++ d') := by
  intro m
  induction m with
  | zero =>
    intro ws h out A Ao o oo B H hm h50 hws hh hb hB hol S So O
    have : h = [] := List.eq_nil_of_length_eq_zero (by unfold mu at hm; omega)
    subst this
    have Oq : Own H (o ++ ((w, cellsI ws, 3) :: (q, [A], 118) :: (oo ++ (u, us.cells, 23) :: us.objs))) := by
      refine O.perm ?_
      refine (List.Perm.cons _ List.perm_middle.symm).trans ?_
      exact List.perm_middle.symm
    have Oo : Own H (oo ++ (u, us.cells, 23) :: us.objs) := O.tail.tail.sub (List.sublist_append_right ..)
    have ldA : Ai.load H none (.ptr q 0) = some A := load_ptr0 O.tail.head
    have lc := fun id => len_call S Oq id
    refine ⟨A, Ao, oo, _, H, loopW_out ?_ (by simp), So, Oo⟩
    simp -implicitDefEqProofs only [c53l3, aW, ↓aP, makes, reduceLT, reduceEqDiff, reduceAdd, ldA, lc, List.length_nil, Int.ofNat_zero, Int.lt_irrefl]
  | succ m ih =>
    intro ws h out A Ao o oo B H hm h50 hws hh hb hB hol S So O
    have Oq : Own H (o ++ ((w, cellsI ws, 3) :: (q, [A], 118) :: (oo ++ (u, us.cells, 23) :: us.objs))) := by
      refine O.perm ?_
      refine (List.Perm.cons _ List.perm_middle.symm).trans ?_
      exact List.perm_middle.symm
    have Oo : Own H (oo ++ (u, us.cells, 23) :: us.objs) := O.tail.tail.sub (List.sublist_append_right ..)
    have ldA : Ai.load H none (.ptr q 0) = some A := load_ptr0 O.tail.head
    have lc := fun id => len_call S Oq id
    rw [kahn]
    by_cases he : h = []
    · subst he
      rw [if_pos rfl]
      refine ⟨A, Ao, oo, _, H, loopW_out ?_ (by simp), So, Oo⟩
      simp -implicitDefEqProofs only [c53l3, aW, ↓aP, makes, reduceLT, reduceEqDiff, reduceAdd, ldA, lc, List.length_nil, Int.ofNat_zero, Int.lt_irrefl]
    · rw [if_neg he]
      have hpos : 0 < h.length := List.length_pos_iff.2 he
      have hpos' : (0 : Int) < h.length := by omega
      have hps := pop_split hpos
      obtain ⟨p, z, hz, OR⟩ : ∃ p z, z.all whole = true ∧ Own H (rd q p h z ++ ((w, cellsI ws, 3) :: (oo ++ (u, us.cells, 23) :: us.objs))) := by
        rcases S with ⟨_, e, _⟩ | ⟨p, z, hz, rfl, rfl⟩
        · exact absurd e he
        · refine ⟨p, z, hz, O.perm ?_⟩
          exact (List.Perm.swap ..).trans (List.Perm.cons _ (List.Perm.swap ..))
      have hml : h.length ≤ 70 := by unfold mu at hm; omega
      obtain ⟨H1, z1, s1, s2, s3, s4⟩ := hpop_tells OR hz hpos (by omega)
      have c1 := callV_same (md := mds) (id := H.length) rfl s1 s2
      have hx : (popL h).getD (h.length - 1) 0 ∈ h := hps.mem_iff.1 (List.mem_append_right _ (by simp))
      have htl : ((popL h).take (h.length - 1)).length + 1 = h.length := by
        have := hps.length_eq
        simpa using this
      have htm : ∀ x ∈ (popL h).take (h.length - 1), 0 ≤ x ∧ x < (N : Int) := fun x hx => hh x (hps.mem_iff.1 (List.mem_append_left _ hx))
      have hxx := hh _ hx
      generalize (popL h).take (h.length - 1) = h' at *
      generalize (popL h).getD (h.length - 1) 0 = X at *
      have O1 : Own H1 (oo ++ ((q, [.own p 0 h'.length 1 none], 118) :: (p, cellsI h' ++ z1, 3) :: (w, cellsI ws, 3) :: (u, us.cells, 23) :: us.objs)) := by
        refine s4.perm ?_
        have e1 : rd q p h' z1 ++ ((w, cellsI ws, 3) :: (oo ++ (u, us.cells, 23) :: us.objs)) = ([(q, [AV.own p 0 h'.length 1 none], 118), (p, cellsI h' ++ z1, 3), (w, cellsI ws, 3)] ++ oo) ++ ((u, us.cells, 23) :: us.objs) := by simp
        have e2 : oo ++ ((q, [AV.own p 0 h'.length 1 none], 118) :: (p, cellsI h' ++ z1, 3) :: (w, cellsI ws, 3) :: (u, us.cells, 23) :: us.objs) = (oo ++ [(q, [AV.own p 0 h'.length 1 none], 118), (p, cellsI h' ++ z1, 3), (w, cellsI ws, 3)]) ++ ((u, us.cells, 23) :: us.objs) := by simp
        rw [e1, e2]
        exact List.Perm.append_right _ List.perm_append_comm
      obtain ⟨H2, ap, O2, hl2⟩ := app_Sl (x := X) So O1 (by omega)
      obtain ⟨x, hxu⟩ : ∃ x, us[X.toNat]? = some x := ⟨_, List.getElem?_eq_getElem (by omega)⟩
      have hxS : Sl x.1 x.2.1 x.2.2 := hok x (List.mem_of_getElem? hxu)
      have hxi : x.2.1 ∈ us.ints := List.mem_map.2 ⟨x, List.mem_of_getElem? hxu, rfl⟩
      have hgd : us.ints.getD X.toNat [] = x.2.1 := by simp [US.ints, List.getD_eq_getElem?_getD, hxu]
      rw [hgd]
      have hxl : us.cells[X.toNat]? = some x.1 := by simp [US.cells, hxu]
      have hX1 : X < (N : Int) := hxx.2
      let D : List Obj1 := (H1.length, cellsI (out ++ [X]), 3) :: (u, us.cells, 23) :: us.objs
      have O3 : Own H2 ((w, cellsI ws, 3) :: (q, [.own p 0 h'.length 1 none], 118) :: ([(p, cellsI h' ++ z1, 3)] ++ D)) := by
        refine O2.perm ?_
        show List.Perm ([(H1.length, cellsI (out ++ [X]), 3)] ++ [(q, [AV.own p 0 h'.length 1 none], 118), (p, cellsI h' ++ z1, 3), (w, cellsI ws, 3)] ++ ((u, us.cells, 23) :: us.objs)) ([(w, cellsI ws, 3), (q, [AV.own p 0 h'.length 1 none], 118), (p, cellsI h' ++ z1, 3)] ++ [(H1.length, cellsI (out ++ [X]), 3)] ++ ((u, us.cells, 23) :: us.objs))
        refine List.Perm.append_right _ (List.perm_append_comm.trans (List.Perm.append_right _ ?_))
        exact (List.Perm.cons _ (List.Perm.swap ..)).trans (List.Perm.swap ..)
      have hrel := fun (H' : List AO) (O' : Own H' D) (j : Nat) (hj : j < x.2.1.length) => hxS.elem (H := H') (d := (H1.length, cellsI (out ++ [X]), 3) :: (u, us.cells, 23) :: US.objs (us.set X.toNat noU)) (O'.perm (by
        refine (List.Perm.cons _ (List.Perm.cons _ (US.focus hxu))).trans ?_
        exact (List.Perm.cons _ List.perm_middle.symm).trans List.perm_middle.symm)) hj
      have hxk := hrng _ hxi
      have hx9 := hsh _ hxi
      have L2 : (H2[u]?) = some (.row us.cells 23) := O3.get (u, us.cells, 23) (by simp [D])
      obtain ⟨A', o', H', L, q1, q2, q3, q4⟩ := relax_loop g N u w q x.2.1 (.fn (.func 71) [] []) (.own H1.length 0 (out ++ [X]).length 1 none) x.1 (by omega) hN hxk x.2.1.length 0 ws h' _ _ D B H2 (by omega) hws (by omega) hb (by omega) (.inr ⟨p, z1, s3, rfl, rfl⟩) hrel O3
      rw [show ((0 : Nat) : Int) = 0 from rfl] at L
      rw [List.drop_zero] at q1 q2 q3 q4
      have hmu : mu (relax ws h' x.2.1).1 (relax ws h' x.2.1).2 ≤ m := by
        have := relax_mu x.2.1 ws h' (fun k hk => by have := hxk k hk; omega)
        unfold mu at this hm ⊢
        omega
      obtain ⟨A2, Ao2, oo2, d2, H3, L3, r1, r2⟩ := ih (relax ws h' x.2.1).1 (relax ws h' x.2.1).2 (out ++ [X]) A' _ o' _ (B + x.2.1.length) H' hmu (by omega) q3 (relax_mem _ _ _ _ htm hxk) q4 (by omega) (by simp; omega) q1 (Sl.own _ _) q2
      refine ⟨A2, Ao2, oo2, d2, H3, loopW_next (fr1 := [(0, g), (4, .own u 0 N 1 (some N)), (5, .own w 0 N 1 (some N)), (6, .ptr q 0), (11, .fn (.func 71) [] []), (12, .own H1.length 0 (out ++ [X]).length 1 none), (74, x.1), (75, litI .i64 x.2.1.length), (76, litI .i64 x.2.1.length), (77, litB false)]) ?_ rfl L3, r1, r2⟩
      simp -implicitDefEqProofs only [c53l3, aW, ↓aP, makes, reduceLT, reduceEqDiff, reduceAdd, ldA, lc, hpos', c1, ap, hxx.1, hX1, and_self, Nat.mul_one, load_of L2 hxl, hxS.lenV, L]
end
section
variable {call : CallF} {mt : MtF} {md : FuncId → Md}
variable {cs : Nat → Option Nat} {cc : Option Nat}
theorem compI_sorted : ∀ l : List Int, l.Pairwise (· ≤ ·) → (compI' l).Pairwise (· < ·)
  | [], _ => List.Pairwise.nil
  | [x], _ => by simp [compI']
  | x :: y :: r, h => by
    rw [List.pairwise_cons] at h
    have ih := compI_sorted (y :: r) h.2
    simp only [compI']
    by_cases e : x = y
    · subst e; rw [beq_self_eq_true, cond_true]; exact ih
    · have : (x == y) = false := by simpa using e
      rw [this, cond_false, List.pairwise_cons]
      refine ⟨fun z hz => ?_, ih⟩
      rw [mem_compI] at hz
      have hy := h.1 y (List.mem_cons_self ..)
      rcases List.mem_cons.1 hz with rfl | hz
      · omega
      · have := (List.pairwise_cons.1 h.2).1 z hz
        omega
theorem need_nodup (g : List (List Int)) (k : Nat) : (need g k).Nodup := by
  unfold need
  split
  · unfold needG
    exact (compI_sorted _ (sortI_sorted _)).imp fun h => by omega
  · exact List.nodup_nil
theorem addU_get (i : Int) : ∀ (r : List Int) (us : List (List Int)) (x : Nat), (∀ k ∈ r, 0 ≤ k ∧ k < (us.length : Int)) → r.Nodup → (addU us i r).getD x [] = us.getD x [] ++ (if (x : Int) ∈ r then [i] else [])
  | [], us, x, _, _ => by simp [addU]
  | k :: r, us, x, hk, hn => by
    have hk0 := hk k (List.mem_cons_self ..)
    rw [List.nodup_cons] at hn
    rw [addU, addU_get i r _ x (fun j hj => by rw [List.length_set]; exact hk j (List.mem_cons_of_mem _ hj)) hn.2]
    by_cases e : x = k.toNat
    · subst e
      have : ((k.toNat : Nat) : Int) = k := by omega
      rw [this, if_neg hn.1, if_pos (List.mem_cons_self ..)]
      rw [List.getD_eq_getElem?_getD, List.getElem?_set_self (by omega)]
      simp
    · have e1 : (x : Int) ≠ k := by omega
      have : (us.set k.toNat (us.getD k.toNat [] ++ [i])).getD x [] = us.getD x [] := by
        rw [List.getD_eq_getElem?_getD, List.getElem?_set_ne (Ne.symm e), ← List.getD_eq_getElem?_getD]
      rw [this]
      simp [e1]
structure BuildOk (g : List (List Int)) (n : Nat) (s : List (List Int) × List Int × List Int) : Prop where
  lu : s.1.length = g.length
  lw : s.2.1.length = g.length
  us : ∀ x : Nat, (s.1.getD x []).Nodup ∧ ∀ i : Int, i ∈ s.1.getD x [] ↔ ∃ j : Nat, i = j ∧ j < n ∧ (x : Int) ∈ need g j
  ws : ∀ j : Nat, j < n → s.2.1.getD j 0 = (need g j).length
  r : s.2.2.Nodup ∧ ∀ i : Int, i ∈ s.2.2 ↔ ∃ j : Nat, i = j ∧ j < n ∧ need g j = []
theorem build_ok (g : List (List Int)) : ∀ (m n : Nat) (s : List (List Int) × List Int × List Int), m + n = g.length → BuildOk g n s → BuildOk g g.length (build g m n s)
  | 0, n, s, h, B => by
    have : n = g.length := by omega
    subst this; exact B
  | m + 1, n, s, h, B => by
    rw [build]
    refine build_ok g m (n + 1) _ (by omega) ?_
    have hn : n < g.length := by omega
    have hrng : ∀ k ∈ need g n, 0 ≤ k ∧ k < (s.1.length : Int) := fun k hk => by rw [B.lu]; exact need_rng _ _ hk
    refine ⟨by rw [addU_len]; exact B.lu, by simpa using B.lw, fun x => ?_, fun j hj => ?_, ?_⟩
    · simp only
      rw [addU_get n _ _ x hrng (need_nodup g n)]
      obtain ⟨b1, b2⟩ := B.us x
      by_cases hx : (x : Int) ∈ need g n
      · rw [if_pos hx]
        constructor
        · rw [List.nodup_append]
          refine ⟨b1, by simp, fun a ha b hb => ?_⟩
          simp only [List.mem_singleton] at hb
          subst hb
          obtain ⟨j, rfl, hj, _⟩ := (b2 a).1 ha
          omega
        · intro i
          rw [List.mem_append, b2 i, List.mem_singleton]
          constructor
          · rintro (⟨j, e, hj, h⟩ | rfl)
            · exact ⟨j, e, by omega, h⟩
            · exact ⟨n, rfl, by omega, hx⟩
          · rintro ⟨j, e, hj, h⟩
            by_cases ej : j = n
            · subst ej; exact .inr e
            · exact .inl ⟨j, e, by omega, h⟩
      · rw [if_neg hx, List.append_nil]
        refine ⟨b1, fun i => ?_⟩
        rw [b2 i]
        constructor
        · rintro ⟨j, e, hj, h⟩; exact ⟨j, e, by omega, h⟩
        · rintro ⟨j, e, hj, h⟩
          have : j ≠ n := fun e => hx (e ▸ h)
          exact ⟨j, e, by omega, h⟩
    · simp only
      rw [List.getD_eq_getElem?_getD, List.getElem?_set]
      by_cases e : n = j
      · subst e
        have : n < s.2.1.length := by rw [B.lw]; exact hn
        simp [this]
      · rw [if_neg e, ← List.getD_eq_getElem?_getD]
        exact B.ws j (by omega)
    · obtain ⟨b1, b2⟩ := B.r
      simp only
      by_cases hx : need g n = []
      · rw [if_pos hx]
        constructor
        · rw [List.nodup_append]
          refine ⟨b1, by simp, fun a ha b hb => ?_⟩
          simp only [List.mem_singleton] at hb
          subst hb
          obtain ⟨j, rfl, hj, _⟩ := (b2 a).1 ha
          omega
        · intro i
          rw [List.mem_append, b2 i, List.mem_singleton]
          constructor
          · rintro (⟨j, e, hj, h⟩ | rfl)
            · exact ⟨j, e, by omega, h⟩
            · exact ⟨n, rfl, by omega, hx⟩
          · rintro ⟨j, e, hj, h⟩
            by_cases ej : j = n
            · subst ej; exact .inr e
            · exact .inl ⟨j, e, by omega, h⟩
      · rw [if_neg hx]
        refine ⟨b1, fun i => ?_⟩
        rw [b2 i]
        constructor
        · rintro ⟨j, e, hj, h⟩; exact ⟨j, e, by omega, h⟩
        · rintro ⟨j, e, hj, h⟩
          have : j ≠ n := fun e => hx (e ▸ h)
          exact ⟨j, e, by omega, h⟩
theorem relax_get : ∀ (r ws h : List Int), r.Nodup → (∀ k ∈ r, 0 ≤ k ∧ k < (ws.length : Int)) → (relax ws h r).1.length = ws.length ∧ (∀ i : Nat, (relax ws h r).1.getD i 0 = ws.getD i 0 - (if (i : Int) ∈ r then 1 else 0)) ∧ (relax ws h r).2.Perm (h ++ r.filter fun k => decide (ws.getD k.toNat 0 = 1))
  | [], ws, h, _, _ => ⟨rfl, fun i => by simp [relax], by simp [relax]⟩
  | k :: r, ws, h, hn, hk => by
    rw [List.nodup_cons] at hn
    have hk0 := hk k (List.mem_cons_self ..)
    rw [relax]
    obtain ⟨i1, i2, i3⟩ := relax_get r (ws.set k.toNat (ws.getD k.toNat 0 - 1)) (if ws.getD k.toNat 0 - 1 = 0 then pushL h k else h) hn.2 (fun j hj => by rw [List.length_set]; exact hk j (List.mem_cons_of_mem _ hj))
    have hset : ∀ i : Nat, i ≠ k.toNat → (ws.set k.toNat (ws.getD k.toNat 0 - 1)).getD i 0 = ws.getD i 0 := fun i hi => by
      rw [List.getD_eq_getElem?_getD, List.getElem?_set_ne (Ne.symm hi), ← List.getD_eq_getElem?_getD]
    refine ⟨by rw [i1]; simp, fun i => ?_, i3.trans ?_⟩
    · rw [i2]
      by_cases e : i = k.toNat
      · subst e
        have ek : ((k.toNat : Nat) : Int) = k := by omega
        rw [ek, if_neg hn.1, if_pos (List.mem_cons_self ..), List.getD_eq_getElem?_getD, List.getElem?_set_self (by omega)]
        simp
      · have e1 : (i : Int) ≠ k := by omega
        rw [hset i e]
        simp [e1]
    · have hf : r.filter (fun j => decide ((ws.set k.toNat (ws.getD k.toNat 0 - 1)).getD j.toNat 0 = 1)) = r.filter (fun j => decide (ws.getD j.toNat 0 = 1)) := by
        refine List.filter_congr fun j hj => ?_
        have hj0 := hk j (List.mem_cons_of_mem _ hj)
        have : j ≠ k := fun e => hn.1 (e ▸ hj)
        rw [hset j.toNat (by omega)]
      rw [hf, List.filter_cons]
      by_cases h1 : ws.getD k.toNat 0 = 1
      · have h2 : ws.getD k.toNat 0 - 1 = 0 := by omega
        rw [if_pos h2, if_pos (by simpa using h1)]
        refine (List.Perm.append_right _ (pushL_perm h k)).trans ?_
        rw [List.append_assoc, List.singleton_append]
      · have h2 : ¬ ws.getD k.toNat 0 - 1 = 0 := by omega
        rw [if_neg h2, if_neg (by simpa using h1)]
structure KI (g : List (List Int)) (ws h out : List Int) : Prop where
  lw : ws.length = g.length
  rng : ∀ x ∈ h ++ out, 0 ≤ x ∧ x < (g.length : Int)
  nd : (h ++ out).Nodup
  w : ∀ i : Nat, i < g.length → ws.getD i 0 = ((need g i).filter fun k => !out.contains k).length
  z : ∀ i : Nat, i < g.length → ((i : Int) ∈ h ++ out ↔ ws.getD i 0 = 0)
  t : ∀ j : Nat, j < out.length → ∀ k ∈ need g (out.getD j 0).toNat, k ∈ out.take j
theorem filter_drop {l out : List Int} {x : Int} (hl : l.Nodup) (hx : ¬ x ∈ out) : ((l.filter fun k => !(out ++ [x]).contains k).length : Int) = (l.filter fun k => !out.contains k).length - (if x ∈ l then 1 else 0) := by
  induction l with
  | nil => simp
  | cons a l ih =>
    rw [List.nodup_cons] at hl
    have ih := ih hl.2
    have e1 : ((out ++ [x]).contains a) = (out.contains a || a == x) := by
      rw [Bool.eq_iff_iff]; simp
    rw [List.filter_cons, List.filter_cons, e1]
    by_cases hax : a = x
    · subst hax
      have h1 : out.contains a = false := by simpa using hx
      rw [h1, if_pos (List.mem_cons_self ..)]
      rw [if_neg hl.1] at ih
      simp only [beq_self_eq_true, Bool.or_true, Bool.not_true, Bool.not_false, if_true, Bool.false_eq_true, if_false, List.length_cons]
      omega
    · have h2 : (a == x) = false := by simpa using hax
      have h3 : x ∈ a :: l ↔ x ∈ l := by
        rw [List.mem_cons]; exact ⟨fun h => h.resolve_left (Ne.symm hax), .inr⟩
      rw [h2, Bool.or_false]
      simp only [h3]
      cases out.contains a
      · simp only [Bool.not_false, if_true, List.length_cons]
        omega
      · simp only [Bool.not_true, Bool.false_eq_true, if_false]
        exact ih
theorem KI.step {g : List (List Int)} {ws h h' out l : List Int} {x : Int} (K : KI g ws h out) (hp : (h' ++ [x]).Perm h) (hl : l.Nodup) (hm : ∀ i : Int, i ∈ l ↔ ∃ j : Nat, i = j ∧ j < g.length ∧ x ∈ need g j) :
    KI g (relax ws h' l).1 (relax ws h' l).2 (out ++ [x]) := by
  have hxh : x ∈ h := hp.mem_iff.1 (by simp)
  have hx0 := K.rng x (List.mem_append_left _ hxh)
  have hnd := K.nd
  have hxo : ¬ x ∈ out := fun ho => (List.nodup_append.1 hnd).2.2 x hxh x ho rfl
  have hlr : ∀ k ∈ l, 0 ≤ k ∧ k < (ws.length : Int) := fun k hk => by
    obtain ⟨j, rfl, hj, _⟩ := (hm k).1 hk
    rw [K.lw]; omega
  obtain ⟨r1, r2, r3⟩ := relax_get l ws h' hl hlr
  have hW : ∀ i : Nat, i < g.length → (relax ws h' l).1.getD i 0 = ((need g i).filter fun k => !(out ++ [x]).contains k).length := by
    intro i hi
    rw [r2, filter_drop (need_nodup g i) hxo, K.w i hi]
    congr 1
    have : (i : Int) ∈ l ↔ x ∈ need g i := by
      rw [hm]
      constructor
      · rintro ⟨j, e, _, h⟩
        have : i = j := by omega
        subst this; exact h
      · intro h; exact ⟨i, rfl, hi, h⟩
    simp only [this]
  have hone : ∀ i : Nat, i < g.length → (i : Int) ∈ l → ws.getD i 0 ≠ 0 := by
    intro i hi hil
    obtain ⟨j, e, hj, hx⟩ := (hm i).1 hil
    have : i = j := by omega
    subst this
    rw [K.w i hi]
    have : x ∈ (need g i).filter fun k => !out.contains k := by
      rw [List.mem_filter]; exact ⟨hx, by simpa using hxo⟩
    have := List.length_pos_of_mem this
    omega
  have hmem : ∀ y : Int, y ∈ (relax ws h' l).2 ++ (out ++ [x]) ↔ y ∈ h ++ out ∨ (y ∈ l ∧ ws.getD y.toNat 0 = 1) := by
    intro y
    rw [List.mem_append, r3.mem_iff, List.mem_append, List.mem_filter, List.mem_append, List.mem_append, ← hp.mem_iff, List.mem_append, decide_eq_true_eq]
    constructor
    · rintro ((h1 | h1) | h1 | h1)
      · exact .inl (.inl (.inl h1))
      · exact .inr h1
      · exact .inl (.inr h1)
      · exact .inl (.inl (.inr h1))
    · rintro (((h1 | h1) | h1) | h1)
      · exact .inl (.inl h1)
      · exact .inr (.inr h1)
      · exact .inr (.inl h1)
      · exact .inl (.inr h1)
  refine ⟨r1.trans K.lw, fun y hy => ?_, ?_, hW, fun i hi => ?_, fun j hj k hk => ?_⟩
  · rcases (hmem y).1 hy with h1 | ⟨h1, _⟩
    · exact K.rng y h1
    · have := hlr y h1; rw [K.lw] at this; exact this
  · have e1 : ((relax ws h' l).2 ++ (out ++ [x])).Perm ((h ++ out) ++ l.filter fun k => decide (ws.getD k.toNat 0 = 1)) := by
      refine (List.Perm.append_right _ r3).trans ?_
      refine List.Perm.trans ?_ (List.Perm.append_right _ (List.Perm.append_right _ hp))
      have a1 : h' ++ l.filter (fun k => decide (ws.getD k.toNat 0 = 1)) ++ (out ++ [x]) = h' ++ (l.filter (fun k => decide (ws.getD k.toNat 0 = 1)) ++ (out ++ [x])) := by simp
      have a2 : h' ++ [x] ++ out ++ l.filter (fun k => decide (ws.getD k.toNat 0 = 1)) = h' ++ (([x] ++ out) ++ l.filter (fun k => decide (ws.getD k.toNat 0 = 1))) := by simp
      rw [a1, a2]
      exact List.Perm.append_left _ (List.perm_append_comm.trans (List.Perm.append_right _ List.perm_append_comm))
    rw [e1.nodup_iff, List.nodup_append]
    refine ⟨hnd, hl.filter _, fun a ha b hb e => ?_⟩
    subst e
    rw [List.mem_filter, decide_eq_true_eq] at hb
    have h0 := K.rng a ha
    have hz := (K.z a.toNat (by omega)).1 (by rw [show ((a.toNat : Nat) : Int) = a by omega]; exact ha)
    omega
  · rw [hmem, K.z i hi, r2, Int.toNat_natCast]
    by_cases hil : (i : Int) ∈ l
    · have := hone i hi hil
      rw [if_pos hil]
      constructor
      · rintro (h | ⟨_, h⟩) <;> omega
      · intro h; exact .inr ⟨hil, by omega⟩
    · rw [if_neg hil]
      constructor
      · rintro (h | ⟨h, _⟩)
        · omega
        · exact absurd h hil
      · intro h; exact .inl (by omega)
  · by_cases hj2 : j < out.length
    · have e1 : (out ++ [x]).getD j 0 = out.getD j 0 := by rw [List.getD_eq_getElem?_getD, List.getElem?_append_left hj2, ← List.getD_eq_getElem?_getD]
      rw [e1] at hk
      rw [List.take_append_of_le_length (by omega)]
      exact K.t j hj2 k hk
    · have hje : j = out.length := by simp at hj; omega
      subst hje
      have e1 : (out ++ [x]).getD out.length 0 = x := by simp [List.getD_eq_getElem?_getD]
      rw [e1] at hk
      rw [List.take_left']
      · have hz := (K.z x.toNat (by omega)).1 (by rw [show ((x.toNat : Nat) : Int) = x by omega]; exact List.mem_append_left _ hxh)
        rw [K.w _ (by omega)] at hz
        have : (need g x.toNat).filter (fun k => !out.contains k) = [] := List.eq_nil_of_length_eq_zero (by omega)
        rw [List.filter_eq_nil_iff] at this
        have := this k hk
        simpa using this
      · rfl
theorem kahn_ok {g : List (List Int)} {us : List (List Int)} (hus : ∀ x : Nat, (us.getD x []).Nodup ∧ ∀ i : Int, i ∈ us.getD x [] ↔ ∃ j : Nat, i = j ∧ j < g.length ∧ (x : Int) ∈ need g j) :
    ∀ (m : Nat) (ws h out : List Int), mu ws h ≤ m → KI g ws h out → ∃ ws', KI g ws' [] (kahn us m ws h out)
  | 0, ws, h, out, hm, K => by
    have : h = [] := List.eq_nil_of_length_eq_zero (by unfold mu at hm; omega)
    subst this
    exact ⟨ws, K⟩
  | m + 1, ws, h, out, hm, K => by
    rw [kahn]
    by_cases he : h = []
    · subst he; rw [if_pos rfl]; exact ⟨ws, K⟩
    · rw [if_neg he]
      have hpos : 0 < h.length := List.length_pos_iff.2 he
      have hps := pop_split hpos
      have hx : (popL h).getD (h.length - 1) 0 ∈ h := hps.mem_iff.1 (List.mem_append_right _ (by simp))
      have htl : ((popL h).take (h.length - 1)).length + 1 = h.length := by
        have := hps.length_eq
        simpa using this
      generalize (popL h).take (h.length - 1) = h' at *
      generalize (popL h).getD (h.length - 1) 0 = X at *
      have hX := K.rng X (List.mem_append_left _ hx)
      obtain ⟨u1, u2⟩ := hus X.toNat
      rw [show ((X.toNat : Nat) : Int) = X by omega] at u2
      refine kahn_ok hus m _ _ _ ?_ (K.step hps u1 u2)
      have := relax_mu (us.getD X.toNat []) ws h' (fun k hk => by
        obtain ⟨j, rfl, hj, _⟩ := (u2 k).1 hk
        rw [K.lw, Int.toNat_natCast]; exact hj)
      unfold mu at this hm ⊢
      omega
def outL (g : List (List Int)) : List Int :=
  kahn (build g g.length 0 (List.replicate g.length [], List.replicate g.length 0, [])).1 (mu (build g g.length 0 (List.replicate g.length [], List.replicate g.length 0, [])).2.1 (build g g.length 0 (List.replicate g.length [], List.replicate g.length 0, [])).2.2)
    (build g g.length 0 (List.replicate g.length [], List.replicate g.length 0, [])).2.1 (build g g.length 0 (List.replicate g.length [], List.replicate g.length 0, [])).2.2 []
theorem build0 (g : List (List Int)) : BuildOk g 0 (List.replicate g.length [], List.replicate g.length 0, []) where
  lu := by simp
  lw := by simp
  us := fun x => by
    have : (List.replicate g.length ([] : List Int)).getD x [] = [] := by
      rw [List.getD_eq_getElem?_getD, List.getElem?_replicate]; split <;> rfl
    simp only [this]
    simp
  ws := fun j hj => by omega
  r := ⟨List.nodup_nil, fun i => by simp⟩
theorem buildN (g : List (List Int)) : BuildOk g g.length (build g g.length 0 (List.replicate g.length [], List.replicate g.length 0, [])) := build_ok g _ 0 _ (by omega) (build0 g)
theorem outL_ok (g : List (List Int)) : ∃ ws, KI g ws [] (outL g) := by
  have B := buildN g
  unfold outL
  refine kahn_ok B.us _ _ _ _ (Nat.le_refl _) ⟨B.lw, fun x hx => ?_, ?_, fun i hi => ?_, fun i hi => ?_, fun j hj => by simp at hj⟩
  · rw [List.append_nil, B.r.2] at hx
    obtain ⟨j, rfl, hj, _⟩ := hx
    omega
  · rw [List.append_nil]; exact B.r.1
  · rw [B.ws i hi, List.filter_eq_self.2 (by simp)]
  · rw [List.append_nil, B.r.2, B.ws i hi]
    constructor
    · rintro ⟨j, e, _, h⟩
      have : i = j := by omega
      subst this; simp [h]
    · intro h; exact ⟨i, rfl, hi, List.eq_nil_of_length_eq_zero (by omega)⟩
end
section
variable {call : CallF} {mt : MtF} {md : FuncId → Md}
variable {cs : Nat → Option Nat} {cc : Option Nat}
theorem build_short {g : List (List Int)} (hf : fewG g = true) : ∀ (m n : Nat) (s : List (List Int) × List Int × List Int), (∀ x ∈ s.1, x.length ≤ 60 * n) → s.2.2.length ≤ n → (∀ x ∈ (build g m n s).1, x.length ≤ 60 * (n + m)) ∧ (build g m n s).2.2.length ≤ n + m
  | 0, n, s, h, h2 => ⟨h, h2⟩
  | m + 1, n, s, h, h2 => by
    rw [build]
    have n40 := need_40 hf n
    have := build_short hf m (n + 1) (addU s.1 n (need g n), s.2.1.set n (need g n).length, if need g n = [] then s.2.2 ++ [(n : Int)] else s.2.2) (fun x hx => by
      have := addU_short n (need g n) s.1 (60 * n) h x hx
      omega) (by
      show (if need g n = [] then s.2.2 ++ [(n : Int)] else s.2.2).length ≤ n + 1
      split
      · simp; omega
      · omega)
    rw [show n + (m + 1) = n + 1 + m by omega]
    exact this
def okL (g : List (List Int)) : Bool := decide (g.length ≤ (outL g).length)
theorem order_tells (g : List (List Int)) (hf : fewG g = true) : ∃ (A : AV) (o d : List Obj1) (H' : List AO), cw 53 [gX cs cc g] [] = some (.ret (.tup [A, litB (okL g)]), H') ∧ Sl A (if okL g = true then outL g else []) o ∧ Own H' (o ++ d) := by
  have h20 := few_len hf
  have hm1 := mksV_ok (id := 0) (e := 1) (bytes := 24) (z := [.sl 0 [] (some 0)]) (t := 23) (n := g.length) (by omega) (by omega)
  have hm2 := mksV_ok (id := 1) (e := 1) (bytes := 8) (z := [litI .i64 0]) (t := 3) (n := g.length) (by omega) (by omega)
  rw [reps_one] at hm1 hm2
  let us0 : US := List.replicate g.length (.sl 0 [] (some 0), [], [])
  have hcells : us0.cells = List.replicate g.length (.sl 0 [] (some 0)) := by simp [us0, US.cells]
  have hints : us0.ints = List.replicate g.length [] := by simp [us0, US.ints]
  have hobjs : us0.objs = [] := by simp [us0, US.objs]
  have hok0 : us0.ok := by
    intro x hx
    rw [List.eq_of_mem_replicate hx]; exact Sl.nil
  have hws : cellsI (List.replicate g.length 0) = List.replicate g.length (litI .i64 0) := by simp [cellsI]
  have O : Own [AO.row (List.replicate g.length (.sl 0 [] (some 0))) 23, .row (List.replicate g.length (litI .i64 0)) 3, .row [.sl 0 [] (some 0)] 118] ((0, us0.cells, 23) :: (1, cellsI (List.replicate g.length 0), 3) :: (2, [.sl 0 [] (some 0)], 118) :: ([] ++ us0.objs)) := by
    rw [hcells, hws, hobjs]
    refine ⟨by simp, fun x hx => ?_⟩
    simp only [List.append_nil, List.mem_cons, List.not_mem_nil, or_false] at hx
    rcases hx with rfl | rfl | rfl <;> rfl
  obtain ⟨us, R, ro, H1, L1, p1, p2, p3, p4, p5⟩ := build_loop (cs := cs) (cc := cc) g hf 0 1 2 g.length 0 us0 (List.replicate g.length 0) [] (.sl 0 [] (some 0)) [] _ (by omega) (by simp [us0]) hok0 (fun x hx => by
    rw [hints] at hx; rw [List.eq_of_mem_replicate hx]; simp) (by simp) (Nat.le_refl _) Sl.nil O
  rw [show ((0 : Nat) : Int) = 0 from rfl] at L1
  have B := buildN g
  obtain ⟨sh1, sh2⟩ := build_short hf g.length 0 (List.replicate g.length [], List.replicate g.length 0, []) (fun x hx => by rw [List.eq_of_mem_replicate hx]; simp) (Nat.le_refl _)
  rw [hints] at p3 p4 p5
  have hmu : mu (build g g.length 0 (List.replicate g.length [], List.replicate g.length 0, [])).2.1 (build g g.length 0 (List.replicate g.length [], List.replicate g.length 0, [])).2.2 ≤ 70 := by
    unfold mu
    have := List.countP_le_length (p := fun z => decide (0 < z)) (l := (build g g.length 0 (List.replicate g.length [], List.replicate g.length 0, [])).2.1)
    have := B.lw
    omega
  have O2 : Own H1 ((1, cellsI (build g g.length 0 (List.replicate g.length [], List.replicate g.length 0, [])).2.1, 3) :: (2, [R], 118) :: (ro ++ ([] ++ (0, us.cells, 23) :: us.objs))) := by
    refine p5.perm ?_
    have e1 : (0, us.cells, 23) :: (1, cellsI (build g g.length 0 (List.replicate g.length [], List.replicate g.length 0, [])).2.1, 3) :: (2, [R], 118) :: (ro ++ us.objs) = [(0, us.cells, 23)] ++ ([(1, cellsI (build g g.length 0 (List.replicate g.length [], List.replicate g.length 0, [])).2.1, 3), (2, [R], 118)] ++ ro) ++ us.objs := by simp
    have e2 : (1, cellsI (build g g.length 0 (List.replicate g.length [], List.replicate g.length 0, [])).2.1, 3) :: (2, [R], 118) :: (ro ++ ([] ++ (0, us.cells, 23) :: us.objs)) = ([(1, cellsI (build g g.length 0 (List.replicate g.length [], List.replicate g.length 0, [])).2.1, 3), (2, [R], 118)] ++ ro) ++ [(0, us.cells, 23)] ++ us.objs := by simp
    rw [e1, e2]
    exact List.Perm.append_right _ List.perm_append_comm
  obtain ⟨A', Ao, oo, d', H2, L2, q1, q2⟩ := kahn_loop (gX cs cc g) g.length 0 1 2 us h20 p1 p2 (fun x hx => by rw [p3] at hx; have := sh1 x hx; omega)
    (fun x hx k hk => by
      rw [p3] at hx
      obtain ⟨n, hn⟩ := List.getElem?_of_mem hx
      have hg : (build g g.length 0 (List.replicate g.length [], List.replicate g.length 0, [])).1.getD n [] = x := by rw [List.getD_eq_getElem?_getD, hn]; rfl
      obtain ⟨j, rfl, hj, _⟩ := ((B.us n).2 k).1 (hg ▸ hk)
      omega)
    _ (build g g.length 0 (List.replicate g.length [], List.replicate g.length 0, [])).2.1 (build g g.length 0 (List.replicate g.length [], List.replicate g.length 0, [])).2.2 [] R (.sl 0 [] (some 0)) ro [] 0 H1 (Nat.le_refl _) hmu B.lw
    (fun x hx => by obtain ⟨j, rfl, hj, _⟩ := (B.r.2 x).1 hx; omega)
    (fun x hx => by
      obtain ⟨n, hn⟩ := List.getElem?_of_mem hx
      have hnl : n < g.length := by rw [← B.lw]; exact (List.getElem?_eq_some_iff.1 hn).1
      have hg : (build g g.length 0 (List.replicate g.length [], List.replicate g.length 0, [])).2.1.getD n 0 = x := by rw [List.getD_eq_getElem?_getD, hn]; rfl
      rw [B.ws n hnl] at hg
      have := need_40 hf n
      omega) (by omega) (by simp; omega) p4 Sl.nil O2
  rw [p3] at q1
  have q1' : Sl Ao (outL g) oo := q1
  have hlen := q1'.lenV
  by_cases ho : okL g = true
  · rw [if_pos ho]
    refine ⟨Ao, oo, d', H2, cw_of fn53 (c := c53) rfl rfl rfl rfl ?_, q1', q2⟩
    have h1 : ¬ ((outL g).length : Int) < g.length := by simp only [okL, decide_eq_true_eq] at ho; omega
    rw [ho]
    simp -implicitDefEqProofs only [c53, aW, ↓aP, makes, reduceLT, reduceEqDiff, reduceAdd, lenV_gX, List.length_nil, List.length_cons, hm1, hm2, L1, L2, hlen, h1]
    rfl
  · rw [if_neg ho]
    refine ⟨.sl 0 [] (some 0), [], d', H2, cw_of fn53 (c := c53) rfl rfl rfl rfl ?_, Sl.nil, q2.sub (List.sublist_append_right ..)⟩
    have h1 : ((outL g).length : Int) < g.length := by simp only [okL, decide_eq_true_eq] at ho; omega
    rw [Bool.eq_false_iff.mpr ho]
    simp -implicitDefEqProofs only [c53, aW, ↓aP, makes, reduceLT, reduceEqDiff, reduceAdd, lenV_gX, List.length_nil, List.length_cons, hm1, hm2, L1, L2, hlen, h1]
    rfl
end
end Go.Proofs.Ytcgbdndkfonphaa.Ai.Ord
namespace Go.Proofs.Ytcgbdndkfonphaa.Ai.Ord
open Go Go.Ai
theorem getD_set (l : List Int) (i a : Nat) (x : Int) : (l.set i x).getD a 0 = if i = a ∧ i < l.length then x else l.getD a 0 := by
  rw [List.getD_eq_getElem?_getD, List.getElem?_set]
  by_cases h : i = a
  · subst h
    by_cases h2 : i < l.length
    · simp [h2]
    · simp [h2, List.getD_eq_getElem?_getD]
  · simp [h, List.getD_eq_getElem?_getD]
end Go.Proofs.Ytcgbdndkfonphaa.Ai.Ord
namespace Go.Proofs.Ytcgbdndkfonphaa.Ai
open Go Go.Ai
section
def isS (s : ByteArray) (l : List Nat) : Bool := s.data.toList == (bs l).data.toList
theorem bin_isS (a : ByteArray) (l : List Nat) : bin .eql (litS a) (litS (bs l)) = some (litB (isS a l)) := rfl
def isOne (q : Eqn) : Bool := isS q.op [99, 111, 112, 121] || isS q.op [110, 101, 103] || isS q.op [110, 111, 116] || isS q.op [102, 108, 111, 111, 114] || isS q.op [114, 97, 116]
def isTwo (q : Eqn) : Bool := isS q.op [103, 97, 110, 100] || isS q.op [109, 114, 103]
def isBin (q : Eqn) : Bool := isS q.op [43] || isS q.op [45] || isS q.op [42] || isS q.op [47] || isS q.op [100, 105, 118] || isS q.op [109, 111, 100] || isS q.op [60] || isS q.op [60, 61] || isS q.op [62] || isS q.op [62, 61] || isS q.op [61, 61] || isS q.op [33, 61] || isS q.op [97, 110, 100] || isS q.op [111, 114]
def len0 (q : Eqn) : Bool := (q.args.length : Int) == 0
def eqOk (f : FlatV) (q : Eqn) : Bool :=
  bif isS q.op [108, 105, 116] then len0 q else bif isS q.op [105, 110] then len0 q && inN f.ins.length q.k else bif isS q.op [109, 101, 109] then len0 q && inN f.mems.length q.k
  else bif isS q.op [99, 111, 110, 116] then len0 q && inN f.conts.length q.k else bif isS q.op [102, 108, 97, 103] then len0 q && inN f.cross.length q.k
  else bif isOne q then (q.args.length : Int) == 1 else bif isTwo q then decide ((q.args.length : Int) > 0) else bif isS q.op [115, 101, 108] then (q.args.length : Int) == 3 else bif isBin q then (q.args.length : Int) == 2 else false
theorem eq_b9 (f : FlatV) (n : Nat) (id : Nat) (t : TypeId) : boxV id 9 (.agg (chkC f n)) t = some (.val (.ptr id 0) (some (.row (chkC f n) t))) := boxV_agg rfl rfl
theorem eq_b10 (q : Eqn) (id : Nat) (t : TypeId) : boxV id 10 (.agg q.cs) t = some (.val (.ptr id 0) (some (.row q.cs t))) := boxV_agg rfl rfl
def eqH (f : FlatV) (n : Nat) (q : Eqn) : List AO := [.row (chkC f n) 106, .row q.cs 60]
theorem eq_l2 (f : FlatV) (n : Nat) (q : Eqn) : Ai.load [.row (chkC f n) 106, .row q.cs 60] none (.ptr 1 2) = some (rowC q.args none) := rfl
theorem eq_l1 (f : FlatV) (n : Nat) (q : Eqn) : Ai.load [.row (chkC f n) 106, .row q.cs 60] none (.ptr 1 1) = some (litS q.op) := rfl
theorem eq_l3 (f : FlatV) (n : Nat) (q : Eqn) : Ai.load [.row (chkC f n) 106, .row q.cs 60] none (.ptr 1 3) = some (litI .i64 q.k) := rfl
theorem eq_f0 (f : FlatV) (n : Nat) (q : Eqn) : Ai.load [.row (chkC f n) 106, .row q.cs 60] none (.ptr 0 0) = some (strs f.ins) := rfl
theorem eq_f4 (f : FlatV) (n : Nat) (q : Eqn) : Ai.load [.row (chkC f n) 106, .row q.cs 60] none (.ptr 0 4) = some (memsA f.mems) := rfl
theorem eq_f5 (f : FlatV) (n : Nat) (q : Eqn) : Ai.load [.row (chkC f n) 106, .row q.cs 60] none (.ptr 0 5) = some (contsA f.conts) := rfl
theorem eq_f6 (f : FlatV) (n : Nat) (q : Eqn) : Ai.load [.row (chkC f n) 106, .row q.cs 60] none (.ptr 0 6) = some (crossA f.cross) := rfl
theorem eq_hP (q : Eqn) (m : Nat) (H : List AO) (id : Nat) : callV cw mds 80 [litI .i64 m, .sl 1 [[litI .i64 q.k]] (some 1)] H id = some (.val (litB (inN m q.k)) none) := by
  have := places_call [q.k] (some 1) m (by simp) H id
  rwa [show within [q.k] m = inN m q.k by simp [within]] at this
section
variable (f : FlatV) (n : Nat) (q : Eqn)
theorem eq85_0 (h0 : isS q.op [108, 105, 116] = true) : cw 85 [.agg (chkC f n), .agg q.cs] [] = some (.ret (litB (eqOk f q)), eqH f n q) := by
  refine cw_of fn85 (c := c85) rfl rfl rfl rfl ?_
  rw [show eqOk f q = len0 q by simp only [eqOk, isOne, isTwo, isBin, h0, bB]]
  unfold len0
  simp -implicitDefEqProofs only [c85, aW, ↓aP, makes, reduceLT, reduceEqDiff, reduceAdd, core_box, eq_b9 f n, eq_b10 q, List.length_nil, List.length_cons, List.singleton_append, fadr_ptr, Nat.add_zero, eq_l1, eq_l2, eq_l3, lenV_row, bin_isS, h0]
  rfl
variable (h0 : isS q.op [108, 105, 116] = false)
include h0
theorem eq85_1 (h1 : isS q.op [105, 110] = true) : cw 85 [.agg (chkC f n), .agg q.cs] [] = some (.ret (litB (eqOk f q)), eqH f n q) := by
  refine cw_of fn85 (c := c85) rfl rfl rfl rfl ?_
  rw [show eqOk f q = (len0 q && inN f.ins.length q.k) by simp only [eqOk, isOne, isTwo, isBin, h0, h1, bB]]
  by_cases hz : ((q.args.length : Int) == 0) = true
  · rw [show len0 q = true from hz, Bool.true_and]
    simp -implicitDefEqProofs only [c85, aW, ↓aP, makes, reduceLT, reduceEqDiff, reduceAdd, core_box, eq_b9 f n, eq_b10 q, List.length_nil, List.length_cons, List.singleton_append, fadr_ptr, Nat.add_zero, eq_l1, eq_l2, eq_l3, lenV_row, bin_isS, h0, h1, hz, eq_f0, lenV_strs, eq_hP q, bsV_int]
    rfl
  · rw [Bool.not_eq_true] at hz
    rw [show len0 q = false from hz, Bool.false_and]
    simp -implicitDefEqProofs only [c85, aW, ↓aP, makes, reduceLT, reduceEqDiff, reduceAdd, core_box, eq_b9 f n, eq_b10 q, List.length_nil, List.length_cons, List.singleton_append, fadr_ptr, Nat.add_zero, eq_l1, eq_l2, eq_l3, lenV_row, bin_isS, h0, h1, hz]
    rfl
variable (h1 : isS q.op [105, 110] = false)
include h1
theorem eq85_2 (h2 : isS q.op [109, 101, 109] = true) : cw 85 [.agg (chkC f n), .agg q.cs] [] = some (.ret (litB (eqOk f q)), eqH f n q) := by
  refine cw_of fn85 (c := c85) rfl rfl rfl rfl ?_
  rw [show eqOk f q = (len0 q && inN f.mems.length q.k) by simp only [eqOk, isOne, isTwo, isBin, h0, h1, h2, bB]]
  by_cases hz : ((q.args.length : Int) == 0) = true
  · rw [show len0 q = true from hz, Bool.true_and]
    simp -implicitDefEqProofs only [c85, aW, ↓aP, makes, reduceLT, reduceEqDiff, reduceAdd, core_box, eq_b9 f n, eq_b10 q, List.length_nil, List.length_cons, List.singleton_append, fadr_ptr, Nat.add_zero, eq_l1, eq_l2, eq_l3, lenV_row, bin_isS, h0, h1, h2, hz, eq_f4, lenV_mems, eq_hP q, bsV_int]
    rfl
  · rw [Bool.not_eq_true] at hz
    rw [show len0 q = false from hz, Bool.false_and]
    simp -implicitDefEqProofs only [c85, aW, ↓aP, makes, reduceLT, reduceEqDiff, reduceAdd, core_box, eq_b9 f n, eq_b10 q, List.length_nil, List.length_cons, List.singleton_append, fadr_ptr, Nat.add_zero, eq_l1, eq_l2, eq_l3, lenV_row, bin_isS, h0, h1, h2, hz]
    rfl
variable (h2 : isS q.op [109, 101, 109] = false)
include h2
theorem eq85_3 (h3 : isS q.op [99, 111, 110, 116] = true) : cw 85 [.agg (chkC f n), .agg q.cs] [] = some (.ret (litB (eqOk f q)), eqH f n q) := by
  refine cw_of fn85 (c := c85) rfl rfl rfl rfl ?_
  rw [show eqOk f q = (len0 q && inN f.conts.length q.k) by simp only [eqOk, isOne, isTwo, isBin, h0, h1, h2, h3, bB]]
  by_cases hz : ((q.args.length : Int) == 0) = true
  · rw [show len0 q = true from hz, Bool.true_and]
    simp -implicitDefEqProofs only [c85, aW, ↓aP, makes, reduceLT, reduceEqDiff, reduceAdd, core_box, eq_b9 f n, eq_b10 q, List.length_nil, List.length_cons, List.singleton_append, fadr_ptr, Nat.add_zero, eq_l1, eq_l2, eq_l3, lenV_row, bin_isS, h0, h1, h2, h3, hz, eq_f5, lenV_conts, eq_hP q, bsV_int]
    rfl
  · rw [Bool.not_eq_true] at hz
    rw [show len0 q = false from hz, Bool.false_and]
    simp -implicitDefEqProofs only [c85, aW, ↓aP, makes, reduceLT, reduceEqDiff, reduceAdd, core_box, eq_b9 f n, eq_b10 q, List.length_nil, List.length_cons, List.singleton_append, fadr_ptr, Nat.add_zero, eq_l1, eq_l2, eq_l3, lenV_row, bin_isS, h0, h1, h2, h3, hz]
    rfl
variable (h3 : isS q.op [99, 111, 110, 116] = false)
include h3
theorem eq85_4 (h4 : isS q.op [102, 108, 97, 103] = true) : cw 85 [.agg (chkC f n), .agg q.cs] [] = some (.ret (litB (eqOk f q)), eqH f n q) := by
  refine cw_of fn85 (c := c85) rfl rfl rfl rfl ?_
  rw [show eqOk f q = (len0 q && inN f.cross.length q.k) by simp only [eqOk, isOne, isTwo, isBin, h0, h1, h2, h3, h4, bB]]
  by_cases hz : ((q.args.length : Int) == 0) = true
  · rw [show len0 q = true from hz, Bool.true_and]
    simp -implicitDefEqProofs only [c85, aW, ↓aP, makes, reduceLT, reduceEqDiff, reduceAdd, core_box, eq_b9 f n, eq_b10 q, List.length_nil, List.length_cons, List.singleton_append, fadr_ptr, Nat.add_zero, eq_l1, eq_l2, eq_l3, lenV_row, bin_isS, h0, h1, h2, h3, h4, hz, eq_f6, lenV_cross, eq_hP q, bsV_int]
    rfl
  · rw [Bool.not_eq_true] at hz
    rw [show len0 q = false from hz, Bool.false_and]
    simp -implicitDefEqProofs only [c85, aW, ↓aP, makes, reduceLT, reduceEqDiff, reduceAdd, core_box, eq_b9 f n, eq_b10 q, List.length_nil, List.length_cons, List.singleton_append, fadr_ptr, Nat.add_zero, eq_l1, eq_l2, eq_l3, lenV_row, bin_isS, h0, h1, h2, h3, h4, hz]
    rfl
variable (h4 : isS q.op [102, 108, 97, 103] = false)
include h4
theorem eq85_5 (h5 : isS q.op [99, 111, 112, 121] = true) : cw 85 [.agg (chkC f n), .agg q.cs] [] = some (.ret (litB (eqOk f q)), eqH f n q) := by
  refine cw_of fn85 (c := c85) rfl rfl rfl rfl ?_
  rw [show eqOk f q = ((q.args.length : Int) == 1) by simp only [eqOk, isOne, isTwo, isBin, h0, h1, h2, h3, h4, h5, bB]]
  simp -implicitDefEqProofs only [c85, aW, ↓aP, makes, reduceLT, reduceEqDiff, reduceAdd, core_box, eq_b9 f n, eq_b10 q, List.length_nil, List.length_cons, List.singleton_append, fadr_ptr, Nat.add_zero, eq_l1, eq_l2, eq_l3, lenV_row, bin_isS, h0, h1, h2, h3, h4, h5]
  rfl
variable (h5 : isS q.op [99, 111, 112, 121] = false)
include h5
theorem eq85_6 (h6 : isS q.op [110, 101, 103] = true) : cw 85 [.agg (chkC f n), .agg q.cs] [] = some (.ret (litB (eqOk f q)), eqH f n q) := by
  refine cw_of fn85 (c := c85) rfl rfl rfl rfl ?_
  rw [show eqOk f q = ((q.args.length : Int) == 1) by simp only [eqOk, isOne, isTwo, isBin, h0, h1, h2, h3, h4, h5, h6, bB]]
  simp -implicitDefEqProofs only [c85, aW, ↓aP, makes, reduceLT, reduceEqDiff, reduceAdd, core_box, eq_b9 f n, eq_b10 q, List.length_nil, List.length_cons, List.singleton_append, fadr_ptr, Nat.add_zero, eq_l1, eq_l2, eq_l3, lenV_row, bin_isS, h0, h1, h2, h3, h4, h5, h6]
  rfl
variable (h6 : isS q.op [110, 101, 103] = false)
include h6
theorem eq85_7 (h7 : isS q.op [110, 111, 116] = true) : cw 85 [.agg (chkC f n), .agg q.cs] [] = some (.ret (litB (eqOk f q)), eqH f n q) := by
  refine cw_of fn85 (c := c85) rfl rfl rfl rfl ?_
  rw [show eqOk f q = ((q.args.length : Int) == 1) by simp only [eqOk, isOne, isTwo, isBin, h0, h1, h2, h3, h4, h5, h6, h7, bB]]
  simp -implicitDefEqProofs only [c85, aW, ↓aP, makes, reduceLT, reduceEqDiff, reduceAdd, core_box, eq_b9 f n, eq_b10 q, List.length_nil, List.length_cons, List.singleton_append, fadr_ptr, Nat.add_zero, eq_l1, eq_l2, eq_l3, lenV_row, bin_isS, h0, h1, h2, h3, h4, h5, h6, h7]
  rfl
variable (h7 : isS q.op [110, 111, 116] = false)
include h7
theorem eq85_8 (h8 : isS q.op [102, 108, 111, 111, 114] = true) : cw 85 [.agg (chkC f n), .agg q.cs] [] = some (.ret (litB (eqOk f q)), eqH f n q) := by
  refine cw_of fn85 (c := c85) rfl rfl rfl rfl ?_
  rw [show eqOk f q = ((q.args.length : Int) == 1) by simp only [eqOk, isOne, isTwo, isBin, h0, h1, h2, h3, h4, h5, h6, h7, h8, bB]]
  simp -implicitDefEqProofs only [c85, aW, ↓aP, makes, reduceLT, reduceEqDiff, reduceAdd, core_box, eq_b9 f n, eq_b10 q, List.length_nil, List.length_cons, List.singleton_append, fadr_ptr, Nat.add_zero, eq_l1, eq_l2, eq_l3, lenV_row, bin_isS, h0, h1, h2, h3, h4, h5, h6, h7, h8]
  rfl
variable (h8 : isS q.op [102, 108, 111, 111, 114] = false)
include h8
theorem eq85_9 (h9 : isS q.op [114, 97, 116] = true) : cw 85 [.agg (chkC f n), .agg q.cs] [] = some (.ret (litB (eqOk f q)), eqH f n q) := by
  refine cw_of fn85 (c := c85) rfl rfl rfl rfl ?_
  rw [show eqOk f q = ((q.args.length : Int) == 1) by simp only [eqOk, isOne, isTwo, isBin, h0, h1, h2, h3, h4, h5, h6, h7, h8, h9, bB]]
  simp -implicitDefEqProofs only [c85, aW, ↓aP, makes, reduceLT, reduceEqDiff, reduceAdd, core_box, eq_b9 f n, eq_b10 q, List.length_nil, List.length_cons, List.singleton_append, fadr_ptr, Nat.add_zero, eq_l1, eq_l2, eq_l3, lenV_row, bin_isS, h0, h1, h2, h3, h4, h5, h6, h7, h8, h9]
  rfl
variable (h9 : isS q.op [114, 97, 116] = false)
include h9
theorem eq85_10 (h10 : isS q.op [103, 97, 110, 100] = true) : cw 85 [.agg (chkC f n), .agg q.cs] [] = some (.ret (litB (eqOk f q)), eqH f n q) := by
  refine cw_of fn85 (c := c85) rfl rfl rfl rfl ?_
  rw [show eqOk f q = decide ((q.args.length : Int) > 0) by simp only [eqOk, isOne, isTwo, isBin, h0, h1, h2, h3, h4, h5, h6, h7, h8, h9, h10, bB]]
  simp -implicitDefEqProofs only [c85, aW, ↓aP, makes, reduceLT, reduceEqDiff, reduceAdd, core_box, eq_b9 f n, eq_b10 q, List.length_nil, List.length_cons, List.singleton_append, fadr_ptr, Nat.add_zero, eq_l1, eq_l2, eq_l3, lenV_row, bin_isS, h0, h1, h2, h3, h4, h5, h6, h7, h8, h9, h10]
  rfl
variable (h10 : isS q.op [103, 97, 110, 100] = false)
include h10
theorem eq85_11 (h11 : isS q.op [109, 114, 103] = true) : cw 85 [.agg (chkC f n), .agg q.cs] [] = some (.ret (litB (eqOk f q)), eqH f n q) := by
  refine cw_of fn85 (c := c85) rfl rfl rfl rfl ?_
  rw [show eqOk f q = decide ((q.args.length : Int) > 0) by simp only [eqOk, isOne, isTwo, isBin, h0, h1, h2, h3, h4, h5, h6, h7, h8, h9, h10, h11, bB]]
  simp -implicitDefEqProofs only [c85, aW, ↓aP, makes, reduceLT, reduceEqDiff, reduceAdd, core_box, eq_b9 f n, eq_b10 q, List.length_nil, List.length_cons, List.singleton_append, fadr_ptr, Nat.add_zero, eq_l1, eq_l2, eq_l3, lenV_row, bin_isS, h0, h1, h2, h3, h4, h5, h6, h7, h8, h9, h10, h11]
  rfl
variable (h11 : isS q.op [109, 114, 103] = false)
include h11
theorem eq85_12 (h12 : isS q.op [115, 101, 108] = true) : cw 85 [.agg (chkC f n), .agg q.cs] [] = some (.ret (litB (eqOk f q)), eqH f n q) := by
  refine cw_of fn85 (c := c85) rfl rfl rfl rfl ?_
  rw [show eqOk f q = ((q.args.length : Int) == 3) by simp only [eqOk, isOne, isTwo, isBin, h0, h1, h2, h3, h4, h5, h6, h7, h8, h9, h10, h11, h12, bB]]
  simp -implicitDefEqProofs only [c85, aW, ↓aP, makes, reduceLT, reduceEqDiff, reduceAdd, core_box, eq_b9 f n, eq_b10 q, List.length_nil, List.length_cons, List.singleton_append, fadr_ptr, Nat.add_zero, eq_l1, eq_l2, eq_l3, lenV_row, bin_isS, h0, h1, h2, h3, h4, h5, h6, h7, h8, h9, h10, h11, h12]
  rfl
variable (h12 : isS q.op [115, 101, 108] = false)
include h12
theorem eq85_13 (h13 : isS q.op [43] = true) : cw 85 [.agg (chkC f n), .agg q.cs] [] = some (.ret (litB (eqOk f q)), eqH f n q) := by
  refine cw_of fn85 (c := c85) rfl rfl rfl rfl ?_
  rw [show eqOk f q = ((q.args.length : Int) == 2) by simp only [eqOk, isOne, isTwo, isBin, h0, h1, h2, h3, h4, h5, h6, h7, h8, h9, h10, h11, h12, h13, bB]]
  simp -implicitDefEqProofs only [c85, aW, ↓aP, makes, reduceLT, reduceEqDiff, reduceAdd, core_box, eq_b9 f n, eq_b10 q, List.length_nil, List.length_cons, List.singleton_append, fadr_ptr, Nat.add_zero, eq_l1, eq_l2, eq_l3, lenV_row, bin_isS, h0, h1, h2, h3, h4, h5, h6, h7, h8, h9, h10, h11, h12, h13]
  rfl
variable (h13 : isS q.op [43] = false)
include h13
theorem eq85_14 (h14 : isS q.op [45] = true) : cw 85 [.agg (chkC f n), .agg q.cs] [] = some (.ret (litB (eqOk f q)), eqH f n q) := by
  refine cw_of fn85 (c := c85) rfl rfl rfl rfl ?_
  rw [show eqOk f q = ((q.args.length : Int) == 2) by simp only [eqOk, isOne, isTwo, isBin, h0, h1, h2, h3, h4, h5, h6, h7, h8, h9, h10, h11, h12, h13, h14, bB]]
  simp -implicitDefEqProofs only [c85, aW, ↓aP, makes, reduceLT, reduceEqDiff, reduceAdd, core_box, eq_b9 f n, eq_b10 q, List.length_nil, List.length_cons, List.singleton_append, fadr_ptr, Nat.add_zero, eq_l1, eq_l2, eq_l3, lenV_row, bin_isS, h0, h1, h2, h3, h4, h5, h6, h7, h8, h9, h10, h11, h12, h13, h14]
  rfl
variable (h14 : isS q.op [45] = false)
include h14
theorem eq85_15 (h15 : isS q.op [42] = true) : cw 85 [.agg (chkC f n), .agg q.cs] [] = some (.ret (litB (eqOk f q)), eqH f n q) := by
  refine cw_of fn85 (c := c85) rfl rfl rfl rfl ?_
  rw [show eqOk f q = ((q.args.length : Int) == 2) by simp only [eqOk, isOne, isTwo, isBin, h0, h1, h2, h3, h4, h5, h6, h7, h8, h9, h10, h11, h12, h13, h14, h15, bB]]
  simp -implicitDefEqProofs only [c85, aW, ↓aP, makes, reduceLT, reduceEqDiff, reduceAdd, core_box, eq_b9 f n, eq_b10 q, List.length_nil, List.length_cons, List.singleton_append, fadr_ptr, Nat.add_zero, eq_l1, eq_l2, eq_l3, lenV_row, bin_isS, h0, h1, h2, h3, h4, h5, h6, h7, h8, h9, h10, h11, h12, h13, h14, h15]
  rfl
variable (h15 : isS q.op [42] = false)
include h15
theorem eq85_16 (h16 : isS q.op [47] = true) : cw 85 [.agg (chkC f n), .agg q.cs] [] = some (.ret (litB (eqOk f q)), eqH f n q) := by
  refine cw_of fn85 (c := c85) rfl rfl rfl rfl ?_
  rw [show eqOk f q = ((q.args.length : Int) == 2) by simp only [eqOk, isOne, isTwo, isBin, h0, h1, h2, h3, h4, h5, h6, h7, h8, h9, h10, h11, h12, h13, h14, h15, h16, bB]]
  simp -implicitDefEqProofs only [c85, aW, ↓aP, makes, reduceLT, reduceEqDiff, reduceAdd, core_box, eq_b9 f n, eq_b10 q, List.length_nil, List.length_cons, List.singleton_append, fadr_ptr, Nat.add_zero, eq_l1, eq_l2, eq_l3, lenV_row, bin_isS, h0, h1, h2, h3, h4, h5, h6, h7, h8, h9, h10, h11, h12, h13, h14, h15, h16]
  rfl
variable (h16 : isS q.op [47] = false)
include h16
theorem eq85_17 (h17 : isS q.op [100, 105, 118] = true) : cw 85 [.agg (chkC f n), .agg q.cs] [] = some (.ret (litB (eqOk f q)), eqH f n q) := by
  refine cw_of fn85 (c := c85) rfl rfl rfl rfl ?_
  rw [show eqOk f q = ((q.args.length : Int) == 2) by simp only [eqOk, isOne, isTwo, isBin, h0, h1, h2, h3, h4, h5, h6, h7, h8, h9, h10, h11, h12, h13, h14, h15, h16, h17, bB]]
  simp -implicitDefEqProofs only [c85, aW, ↓aP, makes, reduceLT, reduceEqDiff, reduceAdd, core_box, eq_b9 f n, eq_b10 q, List.length_nil, List.length_cons, List.singleton_append, fadr_ptr, Nat.add_zero, eq_l1, eq_l2, eq_l3, lenV_row, bin_isS, h0, h1, h2, h3, h4, h5, h6, h7, h8, h9, h10, h11, h12, h13, h14, h15, h16, h17]
  rfl
variable (h17 : isS q.op [100, 105, 118] = false)
include h17
theorem eq85_18 (h18 : isS q.op [109, 111, 100] = true) : cw 85 [.agg (chkC f n), .agg q.cs] [] = some (.ret (litB (eqOk f q)), eqH f n q) := by
  refine cw_of fn85 (c := c85) rfl rfl rfl rfl ?_
  rw [show eqOk f q = ((q.args.length : Int) == 2) by simp only [eqOk, isOne, isTwo, isBin, h0, h1, h2, h3, h4, h5, h6, h7, h8, h9, h10, h11, h12, h13, h14, h15, h16, h17, h18, bB]]
  simp -implicitDefEqProofs only [c85, aW, ↓aP, makes, reduceLT, reduceEqDiff, reduceAdd, core_box, eq_b9 f n, eq_b10 q, List.length_nil, List.length_cons, List.singleton_append, fadr_ptr, Nat.add_zero, eq_l1, eq_l2, eq_l3, lenV_row, bin_isS, h0, h1, h2, h3, h4, h5, h6, h7, h8, h9, h10, h11, h12, h13, h14, h15, h16, h17, h18]
  rfl
variable (h18 : isS q.op [109, 111, 100] = false)
include h18
theorem eq85_19 (h19 : isS q.op [60] = true) : cw 85 [.agg (chkC f n), .agg q.cs] [] = some (.ret (litB (eqOk f q)), eqH f n q) := by
  refine cw_of fn85 (c := c85) rfl rfl rfl rfl ?_
  rw [show eqOk f q = ((q.args.length : Int) == 2) by simp only [eqOk, isOne, isTwo, isBin, h0, h1, h2, h3, h4, h5, h6, h7, h8, h9, h10, h11, h12, h13, h14, h15, h16, h17, h18, h19, bB]]
  simp -implicitDefEqProofs only [c85, aW, ↓aP, makes, reduceLT, reduceEqDiff, reduceAdd, core_box, eq_b9 f n, eq_b10 q, List.length_nil, List.length_cons, List.singleton_append, fadr_ptr, Nat.add_zero, eq_l1, eq_l2, eq_l3, lenV_row, bin_isS, h0, h1, h2, h3, h4, h5, h6, h7, h8, h9, h10, h11, h12, h13, h14, h15, h16, h17, h18, h19]
  rfl
variable (h19 : isS q.op [60] = false)
include h19
theorem eq85_20 (h20 : isS q.op [60, 61] = true) : cw 85 [.agg (chkC f n), .agg q.cs] [] = some (.ret (litB (eqOk f q)), eqH f n q) := by
  refine cw_of fn85 (c := c85) rfl rfl rfl rfl ?_
  rw [show eqOk f q = ((q.args.length : Int) == 2) by simp only [eqOk, isOne, isTwo, isBin, h0, h1, h2, h3, h4, h5, h6, h7, h8, h9, h10, h11, h12, h13, h14, h15, h16, h17, h18, h19, h20, bB]]
  simp -implicitDefEqProofs only [c85, aW, ↓aP, makes, reduceLT, reduceEqDiff, reduceAdd, core_box, eq_b9 f n, eq_b10 q, List.length_nil, List.length_cons, List.singleton_append, fadr_ptr, Nat.add_zero, eq_l1, eq_l2, eq_l3, lenV_row, bin_isS, h0, h1, h2, h3, h4, h5, h6, h7, h8, h9, h10, h11, h12, h13, h14, h15, h16, h17, h18, h19, h20]
  rfl
variable (h20 : isS q.op [60, 61] = false)
include h20
theorem eq85_21 (h21 : isS q.op [62] = true) : cw 85 [.agg (chkC f n), .agg q.cs] [] = some (.ret (litB (eqOk f q)), eqH f n q) := by
  refine cw_of fn85 (c := c85) rfl rfl rfl rfl ?_
  rw [show eqOk f q = ((q.args.length : Int) == 2) by simp only [eqOk, isOne, isTwo, isBin, h0, h1, h2, h3, h4, h5, h6, h7, h8, h9, h10, h11, h12, h13, h14, h15, h16, h17, h18, h19, h20, h21, bB]]
  simp -implicitDefEqProofs only [c85, aW, ↓aP, makes, reduceLT, reduceEqDiff, reduceAdd, core_box, eq_b9 f n, eq_b10 q, List.length_nil, List.length_cons, List.singleton_append, fadr_ptr, Nat.add_zero, eq_l1, eq_l2, eq_l3, lenV_row, bin_isS, h0, h1, h2, h3, h4, h5, h6, h7, h8, h9, h10, h11, h12, h13, h14, h15, h16, h17, h18, h19, h20, h21]
  rfl
variable (h21 : isS q.op [62] = false)
include h21
theorem eq85_22 (h22 : isS q.op [62, 61] = true) : cw 85 [.agg (chkC f n), .agg q.cs] [] = some (.ret (litB (eqOk f q)), eqH f n q) := by
  refine cw_of fn85 (c := c85) rfl rfl rfl rfl ?_
  rw [show eqOk f q = ((q.args.length : Int) == 2) by simp only [eqOk, isOne, isTwo, isBin, h0, h1, h2, h3, h4, h5, h6, h7, h8, h9, h10, h11, h12, h13, h14, h15, h16, h17, h18, h19, h20, h21, h22, bB]]
  simp -implicitDefEqProofs only [c85, aW, ↓aP, makes, reduceLT, reduceEqDiff, reduceAdd, core_box, eq_b9 f n, eq_b10 q, List.length_nil, List.length_cons, List.singleton_append, fadr_ptr, Nat.add_zero, eq_l1, eq_l2, eq_l3, lenV_row, bin_isS, h0, h1, h2, h3, h4, h5, h6, h7, h8, h9, h10, h11, h12, h13, h14, h15, h16, h17, h18, h19, h20, h21, h22]
  rfl
variable (h22 : isS q.op [62, 61] = false)
include h22
theorem eq85_23 (h23 : isS q.op [61, 61] = true) : cw 85 [.agg (chkC f n), .agg q.cs] [] = some (.ret (litB (eqOk f q)), eqH f n q) := by
  refine cw_of fn85 (c := c85) rfl rfl rfl rfl ?_
  rw [show eqOk f q = ((q.args.length : Int) == 2) by simp only [eqOk, isOne, isTwo, isBin, h0, h1, h2, h3, h4, h5, h6, h7, h8, h9, h10, h11, h12, h13, h14, h15, h16, h17, h18, h19, h20, h21, h22, h23, bB]]
  simp -implicitDefEqProofs only [c85, aW, ↓aP, makes, reduceLT, reduceEqDiff, reduceAdd, core_box, eq_b9 f n, eq_b10 q, List.length_nil, List.length_cons, List.singleton_append, fadr_ptr, Nat.add_zero, eq_l1, eq_l2, eq_l3, lenV_row, bin_isS, h0, h1, h2, h3, h4, h5, h6, h7, h8, h9, h10, h11, h12, h13, h14, h15, h16, h17, h18, h19, h20, h21, h22, h23]
  rfl
variable (h23 : isS q.op [61, 61] = false)
include h23
theorem eq85_24 (h24 : isS q.op [33, 61] = true) : cw 85 [.agg (chkC f n), .agg q.cs] [] = some (.ret (litB (eqOk f q)), eqH f n q) := by
  refine cw_of fn85 (c := c85) rfl rfl rfl rfl ?_
  rw [show eqOk f q = ((q.args.length : Int) == 2) by simp only [eqOk, isOne, isTwo, isBin, h0, h1, h2, h3, h4, h5, h6, h7, h8, h9, h10, h11, h12, h13, h14, h15, h16, h17, h18, h19, h20, h21, h22, h23, h24, bB]]
  simp -implicitDefEqProofs only [c85, aW, ↓aP, makes, reduceLT, reduceEqDiff, reduceAdd, core_box, eq_b9 f n, eq_b10 q, List.length_nil, List.length_cons, List.singleton_append, fadr_ptr, Nat.add_zero, eq_l1, eq_l2, eq_l3, lenV_row, bin_isS, h0, h1, h2, h3, h4, h5, h6, h7, h8, h9, h10, h11, h12, h13, h14, h15, h16, h17, h18, h19, h20, h21, h22, h23, h24]
  rfl
variable (h24 : isS q.op [33, 61] = false)
include h24
theorem eq85_25 (h25 : isS q.op [97, 110, 100] = true) : cw 85 [.agg (chkC f n), .agg q.cs] [] = some (.ret (litB (eqOk f q)), eqH f n q) := by
  refine cw_of fn85 (c := c85) rfl rfl rfl rfl ?_
  rw [show eqOk f q = ((q.args.length : Int) == 2) by simp only [eqOk, isOne, isTwo, isBin, h0, h1, h2, h3, h4, h5, h6, h7, h8, h9, h10, h11, h12, h13, h14, h15, h16, h17, h18, h19, h20, h21, h22, h23, h24, h25, bB]]
  simp -implicitDefEqProofs only [c85, aW, ↓aP, makes, reduceLT, reduceEqDiff, reduceAdd, core_box, eq_b9 f n, eq_b10 q, List.length_nil, List.length_cons, List.singleton_append, fadr_ptr, Nat.add_zero, eq_l1, eq_l2, eq_l3, lenV_row, bin_isS, h0, h1, h2, h3, h4, h5, h6, h7, h8, h9, h10, h11, h12, h13, h14, h15, h16, h17, h18, h19, h20, h21, h22, h23, h24, h25]
  rfl
variable (h25 : isS q.op [97, 110, 100] = false)
include h25
theorem eq85_26 (h26 : isS q.op [111, 114] = true) : cw 85 [.agg (chkC f n), .agg q.cs] [] = some (.ret (litB (eqOk f q)), eqH f n q) := by
  refine cw_of fn85 (c := c85) rfl rfl rfl rfl ?_
  rw [show eqOk f q = ((q.args.length : Int) == 2) by simp only [eqOk, isOne, isTwo, isBin, h0, h1, h2, h3, h4, h5, h6, h7, h8, h9, h10, h11, h12, h13, h14, h15, h16, h17, h18, h19, h20, h21, h22, h23, h24, h25, h26, bB]]
  simp -implicitDefEqProofs only [c85, aW, ↓aP, makes, reduceLT, reduceEqDiff, reduceAdd, core_box, eq_b9 f n, eq_b10 q, List.length_nil, List.length_cons, List.singleton_append, fadr_ptr, Nat.add_zero, eq_l1, eq_l2, eq_l3, lenV_row, bin_isS, h0, h1, h2, h3, h4, h5, h6, h7, h8, h9, h10, h11, h12, h13, h14, h15, h16, h17, h18, h19, h20, h21, h22, h23, h24, h25, h26]
  rfl
variable (h26 : isS q.op [111, 114] = false)
include h26
theorem eq85_27 : cw 85 [.agg (chkC f n), .agg q.cs] [] = some (.ret (litB (eqOk f q)), eqH f n q) := by
  refine cw_of fn85 (c := c85) rfl rfl rfl rfl ?_
  rw [show eqOk f q = false by simp only [eqOk, isOne, isTwo, isBin, h0, h1, h2, h3, h4, h5, h6, h7, h8, h9, h10, h11, h12, h13, h14, h15, h16, h17, h18, h19, h20, h21, h22, h23, h24, h25, h26, bB]]
  simp -implicitDefEqProofs only [c85, aW, ↓aP, makes, reduceLT, reduceEqDiff, reduceAdd, core_box, eq_b9 f n, eq_b10 q, List.length_nil, List.length_cons, List.singleton_append, fadr_ptr, Nat.add_zero, eq_l1, eq_l2, eq_l3, lenV_row, bin_isS, h0, h1, h2, h3, h4, h5, h6, h7, h8, h9, h10, h11, h12, h13, h14, h15, h16, h17, h18, h19, h20, h21, h22, h23, h24, h25, h26]
  rfl
end
theorem eq_tells (f : FlatV) (n : Nat) (q : Eqn) : cw 85 [.agg (chkC f n), .agg q.cs] [] = some (.ret (litB (eqOk f q)), eqH f n q) := by
  by_cases h0 : isS q.op [108, 105, 116] = true
  · exact eq85_0 f n q h0
  rw [Bool.not_eq_true] at h0
  by_cases h1 : isS q.op [105, 110] = true
  · exact eq85_1 f n q h0 h1
  rw [Bool.not_eq_true] at h1
  by_cases h2 : isS q.op [109, 101, 109] = true
  · exact eq85_2 f n q h0 h1 h2
  rw [Bool.not_eq_true] at h2
  by_cases h3 : isS q.op [99, 111, 110, 116] = true
  · exact eq85_3 f n q h0 h1 h2 h3
  rw [Bool.not_eq_true] at h3
  by_cases h4 : isS q.op [102, 108, 97, 103] = true
  · exact eq85_4 f n q h0 h1 h2 h3 h4
  rw [Bool.not_eq_true] at h4
  by_cases h5 : isS q.op [99, 111, 112, 121] = true
  · exact eq85_5 f n q h0 h1 h2 h3 h4 h5
  rw [Bool.not_eq_true] at h5
  by_cases h6 : isS q.op [110, 101, 103] = true
  · exact eq85_6 f n q h0 h1 h2 h3 h4 h5 h6
  rw [Bool.not_eq_true] at h6
  by_cases h7 : isS q.op [110, 111, 116] = true
  · exact eq85_7 f n q h0 h1 h2 h3 h4 h5 h6 h7
  rw [Bool.not_eq_true] at h7
  by_cases h8 : isS q.op [102, 108, 111, 111, 114] = true
  · exact eq85_8 f n q h0 h1 h2 h3 h4 h5 h6 h7 h8
  rw [Bool.not_eq_true] at h8
  by_cases h9 : isS q.op [114, 97, 116] = true
  · exact eq85_9 f n q h0 h1 h2 h3 h4 h5 h6 h7 h8 h9
  rw [Bool.not_eq_true] at h9
  by_cases h10 : isS q.op [103, 97, 110, 100] = true
  · exact eq85_10 f n q h0 h1 h2 h3 h4 h5 h6 h7 h8 h9 h10
  rw [Bool.not_eq_true] at h10
  by_cases h11 : isS q.op [109, 114, 103] = true
  · exact eq85_11 f n q h0 h1 h2 h3 h4 h5 h6 h7 h8 h9 h10 h11
  rw [Bool.not_eq_true] at h11
  by_cases h12 : isS q.op [115, 101, 108] = true
  · exact eq85_12 f n q h0 h1 h2 h3 h4 h5 h6 h7 h8 h9 h10 h11 h12
  rw [Bool.not_eq_true] at h12
  by_cases h13 : isS q.op [43] = true
  · exact eq85_13 f n q h0 h1 h2 h3 h4 h5 h6 h7 h8 h9 h10 h11 h12 h13
  rw [Bool.not_eq_true] at h13
  by_cases h14 : isS q.op [45] = true
  · exact eq85_14 f n q h0 h1 h2 h3 h4 h5 h6 h7 h8 h9 h10 h11 h12 h13 h14
  rw [Bool.not_eq_true] at h14
  by_cases h15 : isS q.op [42] = true
  · exact eq85_15 f n q h0 h1 h2 h3 h4 h5 h6 h7 h8 h9 h10 h11 h12 h13 h14 h15
  rw [Bool.not_eq_true] at h15
  by_cases h16 : isS q.op [47] = true
  · exact eq85_16 f n q h0 h1 h2 h3 h4 h5 h6 h7 h8 h9 h10 h11 h12 h13 h14 h15 h16
  rw [Bool.not_eq_true] at h16
  by_cases h17 : isS q.op [100, 105, 118] = true
  · exact eq85_17 f n q h0 h1 h2 h3 h4 h5 h6 h7 h8 h9 h10 h11 h12 h13 h14 h15 h16 h17
  rw [Bool.not_eq_true] at h17
  by_cases h18 : isS q.op [109, 111, 100] = true
  · exact eq85_18 f n q h0 h1 h2 h3 h4 h5 h6 h7 h8 h9 h10 h11 h12 h13 h14 h15 h16 h17 h18
  rw [Bool.not_eq_true] at h18
  by_cases h19 : isS q.op [60] = true
  · exact eq85_19 f n q h0 h1 h2 h3 h4 h5 h6 h7 h8 h9 h10 h11 h12 h13 h14 h15 h16 h17 h18 h19
  rw [Bool.not_eq_true] at h19
  by_cases h20 : isS q.op [60, 61] = true
  · exact eq85_20 f n q h0 h1 h2 h3 h4 h5 h6 h7 h8 h9 h10 h11 h12 h13 h14 h15 h16 h17 h18 h19 h20
  rw [Bool.not_eq_true] at h20
  by_cases h21 : isS q.op [62] = true
  · exact eq85_21 f n q h0 h1 h2 h3 h4 h5 h6 h7 h8 h9 h10 h11 h12 h13 h14 h15 h16 h17 h18 h19 h20 h21
  rw [Bool.not_eq_true] at h21
  by_cases h22 : isS q.op [62, 61] = true
  · exact eq85_22 f n q h0 h1 h2 h3 h4 h5 h6 h7 h8 h9 h10 h11 h12 h13 h14 h15 h16 h17 h18 h19 h20 h21 h22
  rw [Bool.not_eq_true] at h22
  by_cases h23 : isS q.op [61, 61] = true
  · exact eq85_23 f n q h0 h1 h2 h3 h4 h5 h6 h7 h8 h9 h10 h11 h12 h13 h14 h15 h16 h17 h18 h19 h20 h21 h22 h23
  rw [Bool.not_eq_true] at h23
  by_cases h24 : isS q.op [33, 61] = true
  · exact eq85_24 f n q h0 h1 h2 h3 h4 h5 h6 h7 h8 h9 h10 h11 h12 h13 h14 h15 h16 h17 h18 h19 h20 h21 h22 h23 h24
  rw [Bool.not_eq_true] at h24
  by_cases h25 : isS q.op [97, 110, 100] = true
  · exact eq85_25 f n q h0 h1 h2 h3 h4 h5 h6 h7 h8 h9 h10 h11 h12 h13 h14 h15 h16 h17 h18 h19 h20 h21 h22 h23 h24 h25
  rw [Bool.not_eq_true] at h25
  by_cases h26 : isS q.op [111, 114] = true
  · exact eq85_26 f n q h0 h1 h2 h3 h4 h5 h6 h7 h8 h9 h10 h11 h12 h13 h14 h15 h16 h17 h18 h19 h20 h21 h22 h23 h24 h25 h26
  rw [Bool.not_eq_true] at h26
  exact eq85_27 f n q h0 h1 h2 h3 h4 h5 h6 h7 h8 h9 h10 h11 h12 h13 h14 h15 h16 h17 h18 h19 h20 h21 h22 h23 h24 h25 h26
theorem eq_call (f : FlatV) (n : Nat) (q : Eqn) (H : List AO) (id : Nat) : callV cw mds 85 [.agg (chkC f n), .agg q.cs] H id = some (.val (litB (eqOk f q)) none) := callV_pureA rfl rfl (eq_tells f n q) rfl
end
section
def resM (f : FlatV) (k : Int) : List Int := ((f.mems[k.toNat]?).map fun m => m.resets).getD []
def resK (f : FlatV) (k : Int) : List Int := ((f.conts[k.toNat]?).map fun m => m.resets).getD []
def rightOk (f : FlatV) (q : Eqn) : Bool :=
  bif isS q.op [108, 105, 116] then len0 q else bif isS q.op [105, 110] then len0 q && inN f.ins.length q.k else bif isS q.op [109, 101, 109] then len0 q && inN f.mems.length q.k && within (resM f q.k) f.names.length
  else bif isS q.op [99, 111, 110, 116] then len0 q && inN f.conts.length q.k && within (resK f q.k) f.names.length else bif isS q.op [102, 108, 97, 103] then len0 q && inN f.cross.length q.k
  else bif isOne q then (q.args.length : Int) == 1 else bif isTwo q then decide ((q.args.length : Int) > 0) else bif isS q.op [115, 101, 108] then (q.args.length : Int) == 3 else bif isBin q then (q.args.length : Int) == 2 else false
def Fits (f : FlatV) : Prop := (∀ m ∈ f.mems, m.resets.length ≤ 1000000) ∧ (∀ m ∈ f.conts, m.resets.length ≤ 1000000)
theorem rt_b8 (f : FlatV) (id : Nat) (t : TypeId) : boxV id 8 (.agg f.cs) t = some (.val (.ptr id 0) (some (.row f.cs t))) := boxV_agg rfl rfl
theorem rt_l1 (f : FlatV) (q : Eqn) : Ai.load [.row f.cs 29, .row q.cs 60] none (.ptr 1 1) = some (litS q.op) := rfl
theorem rt_l2 (f : FlatV) (q : Eqn) : Ai.load [.row f.cs 29, .row q.cs 60] none (.ptr 1 2) = some (rowC q.args none) := rfl
theorem rt_l3 (f : FlatV) (q : Eqn) : Ai.load [.row f.cs 29, .row q.cs 60] none (.ptr 1 3) = some (litI .i64 q.k) := rfl
theorem rt_f0 (f : FlatV) (q : Eqn) : Ai.load [.row f.cs 29, .row q.cs 60] none (.ptr 0 0) = some (strs f.ins) := rfl
theorem rt_f1 (f : FlatV) (q : Eqn) : Ai.load [.row f.cs 29, .row q.cs 60] none (.ptr 0 1) = some (strs f.names) := rfl
theorem rt_f4 (f : FlatV) (q : Eqn) : Ai.load [.row f.cs 29, .row q.cs 60] none (.ptr 0 4) = some (memsA f.mems) := rfl
theorem rt_f5 (f : FlatV) (q : Eqn) : Ai.load [.row f.cs 29, .row q.cs 60] none (.ptr 0 5) = some (contsA f.conts) := rfl
theorem rt_f6 (f : FlatV) (q : Eqn) : Ai.load [.row f.cs 29, .row q.cs 60] none (.ptr 0 6) = some (crossA f.cross) := rfl
theorem rt_ge (n : Nat) : decide ((n : Int) ≥ 1) = decide ((n : Int) > 0) := by
  have : ((n : Int) ≥ 1) ↔ ((n : Int) > 0) := by omega
  simp only [this]
theorem mem_h7 (m : MemV) : (List.drop 7 m.cs).head? = some (rowC m.resets none) := rfl
theorem cont_h7 (m : ContV) : (List.drop 7 m.cs).head? = some (rowC m.resets none) := rfl
def rtH (f : FlatV) (q : Eqn) : List AO := [.row f.cs 29, .row q.cs 60]
theorem rB : type_of% (And.intro @core_box (And.intro @rt_b8 (And.intro @eq_b10 (And.intro @List.length_nil.{0} (And.intro @List.length_cons.{0} (And.intro @List.singleton_append.{0} (And.intro @fadr_ptr (And.intro @fadr_ip (And.intro @Nat.add_zero (And.intro @rt_l1 (And.intro @rt_l2 (And.intro @rt_l3 (And.intro @lenV_row @bin_isS))))))))))))) := (And.intro @core_box (And.intro @rt_b8 (And.intro @eq_b10 (And.intro @List.length_nil.{0} (And.intro @List.length_cons.{0} (And.intro @List.singleton_append.{0} (And.intro @fadr_ptr (And.intro @fadr_ip (And.intro @Nat.add_zero (And.intro @rt_l1 (And.intro @rt_l2 (And.intro @rt_l3 (And.intro @lenV_row @bin_isS)))))))))))))
section
variable (f : FlatV) (q : Eqn) (hf : Fits f)
include hf
theorem rt44_0 (h0 : isS q.op [108, 105, 116] = true) : cw 44 [.agg f.cs, .agg q.cs] [] = some (.ret (litB (rightOk f q)), rtH f q) := by
  refine cw_of fn44 (c := c44) rfl rfl rfl rfl ?_
  rw [show rightOk f q = len0 q by simp only [rightOk, isOne, isTwo, isBin, h0, bB]]
  unfold len0
  simp -implicitDefEqProofs only [c44, aW, ↓aP, makes, reduceLT, reduceEqDiff, reduceAdd, rB, h0]
  rfl
variable (h0 : isS q.op [108, 105, 116] = false)
include h0
theorem rt44_1 (h1 : isS q.op [105, 110] = true) : cw 44 [.agg f.cs, .agg q.cs] [] = some (.ret (litB (rightOk f q)), rtH f q) := by
  refine cw_of fn44 (c := c44) rfl rfl rfl rfl ?_
  rw [show rightOk f q = (len0 q && inN f.ins.length q.k) by simp only [rightOk, isOne, isTwo, isBin, h0, h1, bB]]
  by_cases hz : ((q.args.length : Int) == 0) = true
  case neg =>
    rw [Bool.not_eq_true] at hz
    rw [show (len0 q && inN f.ins.length q.k) = false by rw [show len0 q = false from hz]; simp only [Bool.false_and]]
    simp -implicitDefEqProofs only [c44, aW, ↓aP, makes, reduceLT, reduceEqDiff, reduceAdd, rB, h0, h1, hz]
    rfl
  by_cases k0 : q.k ≥ 0
  case neg =>
    rw [show (len0 q && inN f.ins.length q.k) = false by rw [show inN f.ins.length q.k = false by simp [inN]; omega]; simp only [Bool.false_and, Bool.and_false]]
    simp -implicitDefEqProofs only [c44, aW, ↓aP, makes, reduceLT, reduceEqDiff, reduceAdd, rB, h0, h1, hz, k0]
    rfl
  by_cases k1 : q.k < (f.ins.length : Int)
  case neg =>
    rw [show (len0 q && inN f.ins.length q.k) = false by rw [show inN f.ins.length q.k = false by simp [inN]; omega]; simp only [Bool.false_and, Bool.and_false]]
    simp -implicitDefEqProofs only [c44, aW, ↓aP, makes, reduceLT, reduceEqDiff, reduceAdd, rB, h0, h1, hz, k0, rt_f0, lenV_strs, k1]
    rfl
  rw [show len0 q = true from hz, show inN f.ins.length q.k = true by simp [inN]; omega]
  simp -implicitDefEqProofs only [c44, aW, ↓aP, makes, reduceLT, reduceEqDiff, reduceAdd, rB, h0, h1, hz, k0, rt_f0, lenV_strs, k1]
  rfl
variable (h1 : isS q.op [105, 110] = false)
include h1
theorem rt44_2 (h2 : isS q.op [109, 101, 109] = true) : cw 44 [.agg f.cs, .agg q.cs] [] = some (.ret (litB (rightOk f q)), rtH f q) := by
  refine cw_of fn44 (c := c44) rfl rfl rfl rfl ?_
  rw [show rightOk f q = (len0 q && inN f.mems.length q.k && within (resM f q.k) f.names.length) by simp only [rightOk, isOne, isTwo, isBin, h0, h1, h2, bB]]
  by_cases hz : ((q.args.length : Int) == 0) = true
  case neg =>
    rw [Bool.not_eq_true] at hz
    rw [show (len0 q && inN f.mems.length q.k && within (resM f q.k) f.names.length) = false by rw [show len0 q = false from hz]; simp only [Bool.false_and]]
    simp -implicitDefEqProofs only [c44, aW, ↓aP, makes, reduceLT, reduceEqDiff, reduceAdd, rB, h0, h1, h2, hz]
    rfl
  by_cases k0 : q.k ≥ 0
  case neg =>
    rw [show (len0 q && inN f.mems.length q.k && within (resM f q.k) f.names.length) = false by rw [show inN f.mems.length q.k = false by simp [inN]; omega]; simp only [Bool.false_and, Bool.and_false]]
    simp -implicitDefEqProofs only [c44, aW, ↓aP, makes, reduceLT, reduceEqDiff, reduceAdd, rB, h0, h1, h2, hz, k0]
    rfl
  by_cases k1 : q.k < (f.mems.length : Int)
  case neg =>
    rw [show (len0 q && inN f.mems.length q.k && within (resM f q.k) f.names.length) = false by rw [show inN f.mems.length q.k = false by simp [inN]; omega]; simp only [Bool.false_and, Bool.and_false]]
    simp -implicitDefEqProofs only [c44, aW, ↓aP, makes, reduceLT, reduceEqDiff, reduceAdd, rB, h0, h1, h2, hz, k0, rt_f4, lenV_mems, k1]
    rfl
  rw [show len0 q = true from hz, show inN f.mems.length q.k = true by simp [inN]; omega]
  obtain ⟨k, hk⟩ : ∃ k : Nat, q.k = k := ⟨q.k.toNat, by omega⟩
  rw [hk] at k0 k1 ⊢
  have hlt : k < f.mems.length := by omega
  have hg : f.mems[k]? = some f.mems[k] := List.getElem?_eq_getElem hlt
  rw [show resM f k = f.mems[k].resets by simp [resM, hg], Bool.true_and, Bool.true_and]
  have l3 : Ai.load [.row f.cs 29, .row q.cs 60] none (.ptr 1 3) = some (litI .i64 (k : Int)) := by rw [rt_l3, hk]
  have hw := within_call f.mems[k].resets none f.names.length (hf.1 _ (List.getElem_mem hlt))
  simp -implicitDefEqProofs only [c44, aW, ↓aP, makes, reduceLT, reduceEqDiff, reduceAdd, core_box, rt_b8 f, eq_b10 q, List.length_nil, List.length_cons, List.singleton_append, fadr_ptr, fadr_ip, Nat.add_zero, rt_l1, rt_l2, lenV_row, bin_isS, h0, h1, h2, hz, k0, rt_f4, lenV_mems, k1, iadr_mems, hg, l3, mem_h7, rt_f1, lenV_strs, hw]
  rfl
variable (h2 : isS q.op [109, 101, 109] = false)
include h2
theorem rt44_3 (h3 : isS q.op [99, 111, 110, 116] = true) : cw 44 [.agg f.cs, .agg q.cs] [] = some (.ret (litB (rightOk f q)), rtH f q) := by
  refine cw_of fn44 (c := c44) rfl rfl rfl rfl ?_
  rw [show rightOk f q = (len0 q && inN f.conts.length q.k && within (resK f q.k) f.names.length) by simp only [rightOk, isOne, isTwo, isBin, h0, h1, h2, h3, bB]]
  by_cases hz : ((q.args.length : Int) == 0) = true
  case neg =>
    rw [Bool.not_eq_true] at hz
    rw [show (len0 q && inN f.conts.length q.k && within (resK f q.k) f.names.length) = false by rw [show len0 q = false from hz]; simp only [Bool.false_and]]
    simp -implicitDefEqProofs only [c44, aW, ↓aP, makes, reduceLT, reduceEqDiff, reduceAdd, rB, h0, h1, h2, h3, hz]
    rfl
  by_cases k0 : q.k ≥ 0
  case neg =>
    rw [show (len0 q && inN f.conts.length q.k && within (resK f q.k) f.names.length) = false by rw [show inN f.conts.length q.k = false by simp [inN]; omega]; simp only [Bool.false_and, Bool.and_false]]
    simp -implicitDefEqProofs only [c44, aW, ↓aP, makes, reduceLT, reduceEqDiff, reduceAdd, rB, h0, h1, h2, h3, hz, k0]
    rfl
  by_cases k1 : q.k < (f.conts.length : Int)
  case neg =>
    rw [show (len0 q && inN f.conts.length q.k && within (resK f q.k) f.names.length) = false by rw [show inN f.conts.length q.k = false by simp [inN]; omega]; simp only [Bool.false_and, Bool.and_false]]
    simp -implicitDefEqProofs only [c44, aW, ↓aP, makes, reduceLT, reduceEqDiff, reduceAdd, rB, h0, h1, h2, h3, hz, k0, rt_f5, lenV_conts, k1]
    rfl
  rw [show len0 q = true from hz, show inN f.conts.length q.k = true by simp [inN]; omega]
  obtain ⟨k, hk⟩ : ∃ k : Nat, q.k = k := ⟨q.k.toNat, by omega⟩
  rw [hk] at k0 k1 ⊢
  have hlt : k < f.conts.length := by omega
  have hg : f.conts[k]? = some f.conts[k] := List.getElem?_eq_getElem hlt
  rw [show resK f k = f.conts[k].resets by simp [resK, hg], Bool.true_and, Bool.true_and]
  have l3 : Ai.load [.row f.cs 29, .row q.cs 60] none (.ptr 1 3) = some (litI .i64 (k : Int)) := by rw [rt_l3, hk]
  have hw := within_call f.conts[k].resets none f.names.length (hf.2 _ (List.getElem_mem hlt))
  simp -implicitDefEqProofs only [c44, aW, ↓aP, makes, reduceLT, reduceEqDiff, reduceAdd, core_box, rt_b8 f, eq_b10 q, List.length_nil, List.length_cons, List.singleton_append, fadr_ptr, fadr_ip, Nat.add_zero, rt_l1, rt_l2, lenV_row, bin_isS, h0, h1, h2, h3, hz, k0, rt_f5, lenV_conts, k1, iadr_conts, hg, l3, cont_h7, rt_f1, lenV_strs, hw]
  rfl
variable (h3 : isS q.op [99, 111, 110, 116] = false)
include h3
theorem rt44_4 (h4 : isS q.op [102, 108, 97, 103] = true) : cw 44 [.agg f.cs, .agg q.cs] [] = some (.ret (litB (rightOk f q)), rtH f q) := by
  refine cw_of fn44 (c := c44) rfl rfl rfl rfl ?_
  rw [show rightOk f q = (len0 q && inN f.cross.length q.k) by simp only [rightOk, isOne, isTwo, isBin, h0, h1, h2, h3, h4, bB]]
  by_cases hz : ((q.args.length : Int) == 0) = true
  case neg =>
    rw [Bool.not_eq_true] at hz
    rw [show (len0 q && inN f.cross.length q.k) = false by rw [show len0 q = false from hz]; simp only [Bool.false_and]]
    simp -implicitDefEqProofs only [c44, aW, ↓aP, makes, reduceLT, reduceEqDiff, reduceAdd, rB, h0, h1, h2, h3, h4, hz]
    rfl
  by_cases k0 : q.k ≥ 0
  case neg =>
    rw [show (len0 q && inN f.cross.length q.k) = false by rw [show inN f.cross.length q.k = false by simp [inN]; omega]; simp only [Bool.false_and, Bool.and_false]]
    simp -implicitDefEqProofs only [c44, aW, ↓aP, makes, reduceLT, reduceEqDiff, reduceAdd, rB, h0, h1, h2, h3, h4, hz, k0]
    rfl
  by_cases k1 : q.k < (f.cross.length : Int)
  case neg =>
    rw [show (len0 q && inN f.cross.length q.k) = false by rw [show inN f.cross.length q.k = false by simp [inN]; omega]; simp only [Bool.false_and, Bool.and_false]]
    simp -implicitDefEqProofs only [c44, aW, ↓aP, makes, reduceLT, reduceEqDiff, reduceAdd, rB, h0, h1, h2, h3, h4, hz, k0, rt_f6, lenV_cross, k1]
    rfl
  rw [show len0 q = true from hz, show inN f.cross.length q.k = true by simp [inN]; omega]
  simp -implicitDefEqProofs only [c44, aW, ↓aP, makes, reduceLT, reduceEqDiff, reduceAdd, rB, h0, h1, h2, h3, h4, hz, k0, rt_f6, lenV_cross, k1]
  rfl
variable (h4 : isS q.op [102, 108, 97, 103] = false)
include h4
theorem rt44_5 (h5 : isS q.op [99, 111, 112, 121] = true) : cw 44 [.agg f.cs, .agg q.cs] [] = some (.ret (litB (rightOk f q)), rtH f q) := by
  refine cw_of fn44 (c := c44) rfl rfl rfl rfl ?_
  rw [show rightOk f q = ((q.args.length : Int) == 1) by simp only [rightOk, isOne, isTwo, isBin, h0, h1, h2, h3, h4, h5, bB]]
  simp -implicitDefEqProofs only [c44, aW, ↓aP, makes, reduceLT, reduceEqDiff, reduceAdd, rB, h0, h1, h2, h3, h4, h5]
  rfl
variable (h5 : isS q.op [99, 111, 112, 121] = false)
include h5
theorem rt44_6 (h6 : isS q.op [110, 101, 103] = true) : cw 44 [.agg f.cs, .agg q.cs] [] = some (.ret (litB (rightOk f q)), rtH f q) := by
  refine cw_of fn44 (c := c44) rfl rfl rfl rfl ?_
  rw [show rightOk f q = ((q.args.length : Int) == 1) by simp only [rightOk, isOne, isTwo, isBin, h0, h1, h2, h3, h4, h5, h6, bB]]
  simp -implicitDefEqProofs only [c44, aW, ↓aP, makes, reduceLT, reduceEqDiff, reduceAdd, rB, h0, h1, h2, h3, h4, h5, h6]
  rfl
variable (h6 : isS q.op [110, 101, 103] = false)
include h6
theorem rt44_7 (h7 : isS q.op [110, 111, 116] = true) : cw 44 [.agg f.cs, .agg q.cs] [] = some (.ret (litB (rightOk f q)), rtH f q) := by
  refine cw_of fn44 (c := c44) rfl rfl rfl rfl ?_
  rw [show rightOk f q = ((q.args.length : Int) == 1) by simp only [rightOk, isOne, isTwo, isBin, h0, h1, h2, h3, h4, h5, h6, h7, bB]]
  simp -implicitDefEqProofs only [c44, aW, ↓aP, makes, reduceLT, reduceEqDiff, reduceAdd, rB, h0, h1, h2, h3, h4, h5, h6, h7]
  rfl
variable (h7 : isS q.op [110, 111, 116] = false)
include h7
theorem rt44_8 (h8 : isS q.op [102, 108, 111, 111, 114] = true) : cw 44 [.agg f.cs, .agg q.cs] [] = some (.ret (litB (rightOk f q)), rtH f q) := by
  refine cw_of fn44 (c := c44) rfl rfl rfl rfl ?_
  rw [show rightOk f q = ((q.args.length : Int) == 1) by simp only [rightOk, isOne, isTwo, isBin, h0, h1, h2, h3, h4, h5, h6, h7, h8, bB]]
  simp -implicitDefEqProofs only [c44, aW, ↓aP, makes, reduceLT, reduceEqDiff, reduceAdd, rB, h0, h1, h2, h3, h4, h5, h6, h7, h8]
  rfl
variable (h8 : isS q.op [102, 108, 111, 111, 114] = false)
include h8
theorem rt44_9 (h9 : isS q.op [114, 97, 116] = true) : cw 44 [.agg f.cs, .agg q.cs] [] = some (.ret (litB (rightOk f q)), rtH f q) := by
  refine cw_of fn44 (c := c44) rfl rfl rfl rfl ?_
  rw [show rightOk f q = ((q.args.length : Int) == 1) by simp only [rightOk, isOne, isTwo, isBin, h0, h1, h2, h3, h4, h5, h6, h7, h8, h9, bB]]
  simp -implicitDefEqProofs only [c44, aW, ↓aP, makes, reduceLT, reduceEqDiff, reduceAdd, rB, h0, h1, h2, h3, h4, h5, h6, h7, h8, h9]
  rfl
variable (h9 : isS q.op [114, 97, 116] = false)
include h9
theorem rt44_10 (h10 : isS q.op [103, 97, 110, 100] = true) : cw 44 [.agg f.cs, .agg q.cs] [] = some (.ret (litB (rightOk f q)), rtH f q) := by
  refine cw_of fn44 (c := c44) rfl rfl rfl rfl ?_
  rw [show rightOk f q = decide ((q.args.length : Int) > 0) by simp only [rightOk, isOne, isTwo, isBin, h0, h1, h2, h3, h4, h5, h6, h7, h8, h9, h10, bB]]
  simp -implicitDefEqProofs only [c44, aW, ↓aP, makes, reduceLT, reduceEqDiff, reduceAdd, rB, h0, h1, h2, h3, h4, h5, h6, h7, h8, h9, h10, rt_ge]
  rfl
variable (h10 : isS q.op [103, 97, 110, 100] = false)
include h10
theorem rt44_11 (h11 : isS q.op [109, 114, 103] = true) : cw 44 [.agg f.cs, .agg q.cs] [] = some (.ret (litB (rightOk f q)), rtH f q) := by
  refine cw_of fn44 (c := c44) rfl rfl rfl rfl ?_
  rw [show rightOk f q = decide ((q.args.length : Int) > 0) by simp only [rightOk, isOne, isTwo, isBin, h0, h1, h2, h3, h4, h5, h6, h7, h8, h9, h10, h11, bB]]
  simp -implicitDefEqProofs only [c44, aW, ↓aP, makes, reduceLT, reduceEqDiff, reduceAdd, rB, h0, h1, h2, h3, h4, h5, h6, h7, h8, h9, h10, h11, rt_ge]
  rfl
variable (h11 : isS q.op [109, 114, 103] = false)
include h11
theorem rt44_12 (h12 : isS q.op [115, 101, 108] = true) : cw 44 [.agg f.cs, .agg q.cs] [] = some (.ret (litB (rightOk f q)), rtH f q) := by
  refine cw_of fn44 (c := c44) rfl rfl rfl rfl ?_
  rw [show rightOk f q = ((q.args.length : Int) == 3) by simp only [rightOk, isOne, isTwo, isBin, h0, h1, h2, h3, h4, h5, h6, h7, h8, h9, h10, h11, h12, bB]]
  simp -implicitDefEqProofs only [c44, aW, ↓aP, makes, reduceLT, reduceEqDiff, reduceAdd, rB, h0, h1, h2, h3, h4, h5, h6, h7, h8, h9, h10, h11, h12]
  rfl
variable (h12 : isS q.op [115, 101, 108] = false)
include h12
theorem rt44_13 (h13 : isS q.op [43] = true) : cw 44 [.agg f.cs, .agg q.cs] [] = some (.ret (litB (rightOk f q)), rtH f q) := by
  refine cw_of fn44 (c := c44) rfl rfl rfl rfl ?_
  rw [show rightOk f q = ((q.args.length : Int) == 2) by simp only [rightOk, isOne, isTwo, isBin, h0, h1, h2, h3, h4, h5, h6, h7, h8, h9, h10, h11, h12, h13, bB]]
  simp -implicitDefEqProofs only [c44, aW, ↓aP, makes, reduceLT, reduceEqDiff, reduceAdd, rB, h0, h1, h2, h3, h4, h5, h6, h7, h8, h9, h10, h11, h12, h13]
  rfl
variable (h13 : isS q.op [43] = false)
include h13
theorem rt44_14 (h14 : isS q.op [45] = true) : cw 44 [.agg f.cs, .agg q.cs] [] = some (.ret (litB (rightOk f q)), rtH f q) := by
  refine cw_of fn44 (c := c44) rfl rfl rfl rfl ?_
  rw [show rightOk f q = ((q.args.length : Int) == 2) by simp only [rightOk, isOne, isTwo, isBin, h0, h1, h2, h3, h4, h5, h6, h7, h8, h9, h10, h11, h12, h13, h14, bB]]
  simp -implicitDefEqProofs only [c44, aW, ↓aP, makes, reduceLT, reduceEqDiff, reduceAdd, rB, h0, h1, h2, h3, h4, h5, h6, h7, h8, h9, h10, h11, h12, h13, h14]
  rfl
variable (h14 : isS q.op [45] = false)
include h14
theorem rt44_15 (h15 : isS q.op [42] = true) : cw 44 [.agg f.cs, .agg q.cs] [] = some (.ret (litB (rightOk f q)), rtH f q) := by
  refine cw_of fn44 (c := c44) rfl rfl rfl rfl ?_
  rw [show rightOk f q = ((q.args.length : Int) == 2) by simp only [rightOk, isOne, isTwo, isBin, h0, h1, h2, h3, h4, h5, h6, h7, h8, h9, h10, h11, h12, h13, h14, h15, bB]]
  simp -implicitDefEqProofs only [c44, aW, ↓aP, makes, reduceLT, reduceEqDiff, reduceAdd, rB, h0, h1, h2, h3, h4, h5, h6, h7, h8, h9, h10, h11, h12, h13, h14, h15]
  rfl
variable (h15 : isS q.op [42] = false)
include h15
theorem rt44_16 (h16 : isS q.op [47] = true) : cw 44 [.agg f.cs, .agg q.cs] [] = some (.ret (litB (rightOk f q)), rtH f q) := by
  refine cw_of fn44 (c := c44) rfl rfl rfl rfl ?_
  rw [show rightOk f q = ((q.args.length : Int) == 2) by simp only [rightOk, isOne, isTwo, isBin, h0, h1, h2, h3, h4, h5, h6, h7, h8, h9, h10, h11, h12, h13, h14, h15, h16, bB]]
  simp -implicitDefEqProofs only [c44, aW, ↓aP, makes, reduceLT, reduceEqDiff, reduceAdd, rB, h0, h1, h2, h3, h4, h5, h6, h7, h8, h9, h10, h11, h12, h13, h14, h15, h16]
  rfl
variable (h16 : isS q.op [47] = false)
include h16
theorem rt44_17 (h17 : isS q.op [100, 105, 118] = true) : cw 44 [.agg f.cs, .agg q.cs] [] = some (.ret (litB (rightOk f q)), rtH f q) := by
  refine cw_of fn44 (c := c44) rfl rfl rfl rfl ?_
  rw [show rightOk f q = ((q.args.length : Int) == 2) by simp only [rightOk, isOne, isTwo, isBin, h0, h1, h2, h3, h4, h5, h6, h7, h8, h9, h10, h11, h12, h13, h14, h15, h16, h17, bB]]
  simp -implicitDefEqProofs only [c44, aW, ↓aP, makes, reduceLT, reduceEqDiff, reduceAdd, rB, h0, h1, h2, h3, h4, h5, h6, h7, h8, h9, h10, h11, h12, h13, h14, h15, h16, h17]
  rfl
variable (h17 : isS q.op [100, 105, 118] = false)
include h17
theorem rt44_18 (h18 : isS q.op [109, 111, 100] = true) : cw 44 [.agg f.cs, .agg q.cs] [] = some (.ret (litB (rightOk f q)), rtH f q) := by
  refine cw_of fn44 (c := c44) rfl rfl rfl rfl ?_
  rw [show rightOk f q = ((q.args.length : Int) == 2) by simp only [rightOk, isOne, isTwo, isBin, h0, h1, h2, h3, h4, h5, h6, h7, h8, h9, h10, h11, h12, h13, h14, h15, h16, h17, h18, bB]]
  simp -implicitDefEqProofs only [c44, aW, ↓aP, makes, reduceLT, reduceEqDiff, reduceAdd, rB, h0, h1, h2, h3, h4, h5, h6, h7, h8, h9, h10, h11, h12, h13, h14, h15, h16, h17, h18]
  rfl
variable (h18 : isS q.op [109, 111, 100] = false)
include h18
theorem rt44_19 (h19 : isS q.op [60] = true) : cw 44 [.agg f.cs, .agg q.cs] [] = some (.ret (litB (rightOk f q)), rtH f q) := by
  refine cw_of fn44 (c := c44) rfl rfl rfl rfl ?_
  rw [show rightOk f q = ((q.args.length : Int) == 2) by simp only [rightOk, isOne, isTwo, isBin, h0, h1, h2, h3, h4, h5, h6, h7, h8, h9, h10, h11, h12, h13, h14, h15, h16, h17, h18, h19, bB]]
  simp -implicitDefEqProofs only [c44, aW, ↓aP, makes, reduceLT, reduceEqDiff, reduceAdd, rB, h0, h1, h2, h3, h4, h5, h6, h7, h8, h9, h10, h11, h12, h13, h14, h15, h16, h17, h18, h19]
  rfl
variable (h19 : isS q.op [60] = false)
include h19
theorem rt44_20 (h20 : isS q.op [60, 61] = true) : cw 44 [.agg f.cs, .agg q.cs] [] = some (.ret (litB (rightOk f q)), rtH f q) := by
  refine cw_of fn44 (c := c44) rfl rfl rfl rfl ?_
  rw [show rightOk f q = ((q.args.length : Int) == 2) by simp only [rightOk, isOne, isTwo, isBin, h0, h1, h2, h3, h4, h5, h6, h7, h8, h9, h10, h11, h12, h13, h14, h15, h16, h17, h18, h19, h20, bB]]
  simp -implicitDefEqProofs only [c44, aW, ↓aP, makes, reduceLT, reduceEqDiff, reduceAdd, rB, h0, h1, h2, h3, h4, h5, h6, h7, h8, h9, h10, h11, h12, h13, h14, h15, h16, h17, h18, h19, h20]
  rfl
variable (h20 : isS q.op [60, 61] = false)
include h20
theorem rt44_21 (h21 : isS q.op [62] = true) : cw 44 [.agg f.cs, .agg q.cs] [] = some (.ret (litB (rightOk f q)), rtH f q) := by
  refine cw_of fn44 (c := c44) rfl rfl rfl rfl ?_
  rw [show rightOk f q = ((q.args.length : Int) == 2) by simp only [rightOk, isOne, isTwo, isBin, h0, h1, h2, h3, h4, h5, h6, h7, h8, h9, h10, h11, h12, h13, h14, h15, h16, h17, h18, h19, h20, h21, bB]]
  simp -implicitDefEqProofs only [c44, aW, ↓aP, makes, reduceLT, reduceEqDiff, reduceAdd, rB, h0, h1, h2, h3, h4, h5, h6, h7, h8, h9, h10, h11, h12, h13, h14, h15, h16, h17, h18, h19, h20, h21]
  rfl
variable (h21 : isS q.op [62] = false)
include h21
theorem rt44_22 (h22 : isS q.op [62, 61] = true) : cw 44 [.agg f.cs, .agg q.cs] [] = some (.ret (litB (rightOk f q)), rtH f q) := by
  refine cw_of fn44 (c := c44) rfl rfl rfl rfl ?_
  rw [show rightOk f q = ((q.args.length : Int) == 2) by simp only [rightOk, isOne, isTwo, isBin, h0, h1, h2, h3, h4, h5, h6, h7, h8, h9, h10, h11, h12, h13, h14, h15, h16, h17, h18, h19, h20, h21, h22, bB]]
  simp -implicitDefEqProofs only [c44, aW, ↓aP, makes, reduceLT, reduceEqDiff, reduceAdd, rB, h0, h1, h2, h3, h4, h5, h6, h7, h8, h9, h10, h11, h12, h13, h14, h15, h16, h17, h18, h19, h20, h21, h22]
  rfl
variable (h22 : isS q.op [62, 61] = false)
include h22
theorem rt44_23 (h23 : isS q.op [61, 61] = true) : cw 44 [.agg f.cs, .agg q.cs] [] = some (.ret (litB (rightOk f q)), rtH f q) := by
  refine cw_of fn44 (c := c44) rfl rfl rfl rfl ?_
  rw [show rightOk f q = ((q.args.length : Int) == 2) by simp only [rightOk, isOne, isTwo, isBin, h0, h1, h2, h3, h4, h5, h6, h7, h8, h9, h10, h11, h12, h13, h14, h15, h16, h17, h18, h19, h20, h21, h22, h23, bB]]
  simp -implicitDefEqProofs only [c44, aW, ↓aP, makes, reduceLT, reduceEqDiff, reduceAdd, rB, h0, h1, h2, h3, h4, h5, h6, h7, h8, h9, h10, h11, h12, h13, h14, h15, h16, h17, h18, h19, h20, h21, h22, h23]
  rfl
variable (h23 : isS q.op [61, 61] = false)
include h23
theorem rt44_24 (h24 : isS q.op [33, 61] = true) : cw 44 [.agg f.cs, .agg q.cs] [] = some (.ret (litB (rightOk f q)), rtH f q) := by
  refine cw_of fn44 (c := c44) rfl rfl rfl rfl ?_
  rw [show rightOk f q = ((q.args.length : Int) == 2) by simp only [rightOk, isOne, isTwo, isBin, h0, h1, h2, h3, h4, h5, h6, h7, h8, h9, h10, h11, h12, h13, h14, h15, h16, h17, h18, h19, h20, h21, h22, h23, h24, bB]]
  simp -implicitDefEqProofs only [c44, aW, ↓aP, makes, reduceLT, reduceEqDiff, reduceAdd, rB, h0, h1, h2, h3, h4, h5, h6, h7, h8, h9, h10, h11, h12, h13, h14, h15, h16, h17, h18, h19, h20, h21, h22, h23, h24]
  rfl
variable (h24 : isS q.op [33, 61] = false)
include h24
theorem rt44_25 (h25 : isS q.op [97, 110, 100] = true) : cw 44 [.agg f.cs, .agg q.cs] [] = some (.ret (litB (rightOk f q)), rtH f q) := by
  refine cw_of fn44 (c := c44) rfl rfl rfl rfl ?_
  rw [show rightOk f q = ((q.args.length : Int) == 2) by simp only [rightOk, isOne, isTwo, isBin, h0, h1, h2, h3, h4, h5, h6, h7, h8, h9, h10, h11, h12, h13, h14, h15, h16, h17, h18, h19, h20, h21, h22, h23, h24, h25, bB]]
  simp -implicitDefEqProofs only [c44, aW, ↓aP, makes, reduceLT, reduceEqDiff, reduceAdd, rB, h0, h1, h2, h3, h4, h5, h6, h7, h8, h9, h10, h11, h12, h13, h14, h15, h16, h17, h18, h19, h20, h21, h22, h23, h24, h25]
  rfl
variable (h25 : isS q.op [97, 110, 100] = false)
include h25
theorem rt44_26 (h26 : isS q.op [111, 114] = true) : cw 44 [.agg f.cs, .agg q.cs] [] = some (.ret (litB (rightOk f q)), rtH f q) := by
  refine cw_of fn44 (c := c44) rfl rfl rfl rfl ?_
  rw [show rightOk f q = ((q.args.length : Int) == 2) by simp only [rightOk, isOne, isTwo, isBin, h0, h1, h2, h3, h4, h5, h6, h7, h8, h9, h10, h11, h12, h13, h14, h15, h16, h17, h18, h19, h20, h21, h22, h23, h24, h25, h26, bB]]
  simp -implicitDefEqProofs only [c44, aW, ↓aP, makes, reduceLT, reduceEqDiff, reduceAdd, rB, h0, h1, h2, h3, h4, h5, h6, h7, h8, h9, h10, h11, h12, h13, h14, h15, h16, h17, h18, h19, h20, h21, h22, h23, h24, h25, h26]
  rfl
variable (h26 : isS q.op [111, 114] = false)
include h26
theorem rt44_27 : cw 44 [.agg f.cs, .agg q.cs] [] = some (.ret (litB (rightOk f q)), rtH f q) := by
  refine cw_of fn44 (c := c44) rfl rfl rfl rfl ?_
  rw [show rightOk f q = false by simp only [rightOk, isOne, isTwo, isBin, h0, h1, h2, h3, h4, h5, h6, h7, h8, h9, h10, h11, h12, h13, h14, h15, h16, h17, h18, h19, h20, h21, h22, h23, h24, h25, h26, bB]]
  simp -implicitDefEqProofs only [c44, aW, ↓aP, makes, reduceLT, reduceEqDiff, reduceAdd, rB, h0, h1, h2, h3, h4, h5, h6, h7, h8, h9, h10, h11, h12, h13, h14, h15, h16, h17, h18, h19, h20, h21, h22, h23, h24, h25, h26]
  rfl
end
theorem right_tells (f : FlatV) (q : Eqn) (hf : Fits f) : cw 44 [.agg f.cs, .agg q.cs] [] = some (.ret (litB (rightOk f q)), rtH f q) := by
  by_cases h0 : isS q.op [108, 105, 116] = true
  · exact rt44_0 f q hf h0
  rw [Bool.not_eq_true] at h0
  by_cases h1 : isS q.op [105, 110] = true
  · exact rt44_1 f q hf h0 h1
  rw [Bool.not_eq_true] at h1
  by_cases h2 : isS q.op [109, 101, 109] = true
  · exact rt44_2 f q hf h0 h1 h2
  rw [Bool.not_eq_true] at h2
  by_cases h3 : isS q.op [99, 111, 110, 116] = true
  · exact rt44_3 f q hf h0 h1 h2 h3
  rw [Bool.not_eq_true] at h3
  by_cases h4 : isS q.op [102, 108, 97, 103] = true
  · exact rt44_4 f q hf h0 h1 h2 h3 h4
  rw [Bool.not_eq_true] at h4
  by_cases h5 : isS q.op [99, 111, 112, 121] = true
  · exact rt44_5 f q hf h0 h1 h2 h3 h4 h5
  rw [Bool.not_eq_true] at h5
  by_cases h6 : isS q.op [110, 101, 103] = true
  · exact rt44_6 f q hf h0 h1 h2 h3 h4 h5 h6
  rw [Bool.not_eq_true] at h6
  by_cases h7 : isS q.op [110, 111, 116] = true
  · exact rt44_7 f q hf h0 h1 h2 h3 h4 h5 h6 h7
  rw [Bool.not_eq_true] at h7
  by_cases h8 : isS q.op [102, 108, 111, 111, 114] = true
  · exact rt44_8 f q hf h0 h1 h2 h3 h4 h5 h6 h7 h8
  rw [Bool.not_eq_true] at h8
  by_cases h9 : isS q.op [114, 97, 116] = true
  · exact rt44_9 f q hf h0 h1 h2 h3 h4 h5 h6 h7 h8 h9
  rw [Bool.not_eq_true] at h9
  by_cases h10 : isS q.op [103, 97, 110, 100] = true
  · exact rt44_10 f q hf h0 h1 h2 h3 h4 h5 h6 h7 h8 h9 h10
  rw [Bool.not_eq_true] at h10
  by_cases h11 : isS q.op [109, 114, 103] = true
  · exact rt44_11 f q hf h0 h1 h2 h3 h4 h5 h6 h7 h8 h9 h10 h11
  rw [Bool.not_eq_true] at h11
  by_cases h12 : isS q.op [115, 101, 108] = true
  · exact rt44_12 f q hf h0 h1 h2 h3 h4 h5 h6 h7 h8 h9 h10 h11 h12
  rw [Bool.not_eq_true] at h12
  by_cases h13 : isS q.op [43] = true
  · exact rt44_13 f q hf h0 h1 h2 h3 h4 h5 h6 h7 h8 h9 h10 h11 h12 h13
  rw [Bool.not_eq_true] at h13
  by_cases h14 : isS q.op [45] = true
  · exact rt44_14 f q hf h0 h1 h2 h3 h4 h5 h6 h7 h8 h9 h10 h11 h12 h13 h14
  rw [Bool.not_eq_true] at h14
  by_cases h15 : isS q.op [42] = true
  · exact rt44_15 f q hf h0 h1 h2 h3 h4 h5 h6 h7 h8 h9 h10 h11 h12 h13 h14 h15
  rw [Bool.not_eq_true] at h15
  by_cases h16 : isS q.op [47] = true
  · exact rt44_16 f q hf h0 h1 h2 h3 h4 h5 h6 h7 h8 h9 h10 h11 h12 h13 h14 h15 h16
  rw [Bool.not_eq_true] at h16
  by_cases h17 : isS q.op [100, 105, 118] = true
  · exact rt44_17 f q hf h0 h1 h2 h3 h4 h5 h6 h7 h8 h9 h10 h11 h12 h13 h14 h15 h16 h17
  rw [Bool.not_eq_true] at h17
  by_cases h18 : isS q.op [109, 111, 100] = true
  · exact rt44_18 f q hf h0 h1 h2 h3 h4 h5 h6 h7 h8 h9 h10 h11 h12 h13 h14 h15 h16 h17 h18
  rw [Bool.not_eq_true] at h18
  by_cases h19 : isS q.op [60] = true
  · exact rt44_19 f q hf h0 h1 h2 h3 h4 h5 h6 h7 h8 h9 h10 h11 h12 h13 h14 h15 h16 h17 h18 h19
  rw [Bool.not_eq_true] at h19
  by_cases h20 : isS q.op [60, 61] = true
  · exact rt44_20 f q hf h0 h1 h2 h3 h4 h5 h6 h7 h8 h9 h10 h11 h12 h13 h14 h15 h16 h17 h18 h19 h20
  rw [Bool.not_eq_true] at h20
  by_cases h21 : isS q.op [62] = true
  · exact rt44_21 f q hf h0 h1 h2 h3 h4 h5 h6 h7 h8 h9 h10 h11 h12 h13 h14 h15 h16 h17 h18 h19 h20 h21
  rw [Bool.not_eq_true] at h21
  by_cases h22 : isS q.op [62, 61] = true
  · exact rt44_22 f q hf h0 h1 h2 h3 h4 h5 h6 h7 h8 h9 h10 h11 h12 h13 h14 h15 h16 h17 h18 h19 h20 h21 h22
  rw [Bool.not_eq_true] at h22
  by_cases h23 : isS q.op [61, 61] = true
  · exact rt44_23 f q hf h0 h1 h2 h3 h4 h5 h6 h7 h8 h9 h10 h11 h12 h13 h14 h15 h16 h17 h18 h19 h20 h21 h22 h23
  rw [Bool.not_eq_true] at h23
  by_cases h24 : isS q.op [33, 61] = true
  · exact rt44_24 f q hf h0 h1 h2 h3 h4 h5 h6 h7 h8 h9 h10 h11 h12 h13 h14 h15 h16 h17 h18 h19 h20 h21 h22 h23 h24
  rw [Bool.not_eq_true] at h24
  by_cases h25 : isS q.op [97, 110, 100] = true
  · exact rt44_25 f q hf h0 h1 h2 h3 h4 h5 h6 h7 h8 h9 h10 h11 h12 h13 h14 h15 h16 h17 h18 h19 h20 h21 h22 h23 h24 h25
  rw [Bool.not_eq_true] at h25
  by_cases h26 : isS q.op [111, 114] = true
  · exact rt44_26 f q hf h0 h1 h2 h3 h4 h5 h6 h7 h8 h9 h10 h11 h12 h13 h14 h15 h16 h17 h18 h19 h20 h21 h22 h23 h24 h25 h26
  rw [Bool.not_eq_true] at h26
  exact rt44_27 f q hf h0 h1 h2 h3 h4 h5 h6 h7 h8 h9 h10 h11 h12 h13 h14 h15 h16 h17 h18 h19 h20 h21 h22 h23 h24 h25 h26
theorem right_call (f : FlatV) (q : Eqn) (hf : Fits f) (H : List AO) (id : Nat) : callV cw mds 44 [.agg f.cs, .agg q.cs] H id = some (.val (litB (rightOk f q)) none) := callV_pureA rfl rfl (right_tells f q hf) rfl
end
section
def lenI (o : COpV) (n : Int) : Bool := (o.args.length : Int) == n
def opOk (f : FlatV) (n i : Nat) (o : COpV) : Bool :=
  bif isS o.op [118, 97, 114] then lenI o 1 && within o.args n else bif isS o.op [99, 111, 110, 116] then lenI o 1 && within o.args f.conts.length else bif isS o.op [110, 101, 103] then lenI o 1 && within o.args i
  else bif isS o.op [43] || isS o.op [45] || isS o.op [47] then lenI o 2 && within o.args i else bif isS o.op [42] then lenI o 3 && within (o.args.take 2) i && within (o.args.drop 2) 2
  else bif isS o.op [115, 101, 108] then lenI o 3 && within (o.args.take 1) n && within (o.args.drop 1) i else false
def opsF (f : FlatV) (n : Nat) : Nat → List COpV → Bool
  | _, [] => true
  | i, o :: r => opOk f n i o && opsF f n (i + 1) r
def opsOk (f : FlatV) (n : Nat) (l : List COpV) : Bool := opsF f n 0 l && decide ((l.length : Int) > 0)
theorem cop_h1 (o : COpV) : (List.drop 1 o.cs).head? = some (rowC o.args none) := rfl
theorem cop_h0 (o : COpV) : (List.drop 0 o.cs).head? = some (litS o.op) := rfl
theorem sli_2 (x y z : Int) : slice 1 (rowC [x, y, z] none) none (some (litI .i64 2)) none = some (rowC [x, y] none) := rfl
theorem sli_1 (x y z : Int) : slice 1 (rowC [x, y, z] none) none (some (litI .i64 1)) none = some (rowC [x] none) := rfl
theorem sli_2d (x y z : Int) : slice 1 (rowC [x, y, z] none) (some (litI .i64 2)) none none = some (rowC [z] none) := rfl
theorem sli_1d (x y z : Int) : slice 1 (rowC [x, y, z] none) (some (litI .i64 1)) none none = some (rowC [y, z] none) := rfl
theorem list3 (l : List Int) (h : ((l.length : Int) == 3) = true) : ∃ x y z, l = [x, y, z] := by
  have : l.length = 3 := by have := eq_of_beq h; omega
  match l, this with
  | [x, y, z], _ => exact ⟨x, y, z, rfl⟩
theorem as_f5 (f : FlatV) : Ai.load [.row f.cs 29] none (.ptr 0 5) = some (contsA f.conts) := rfl
theorem asks_round_0 (f : FlatV) (n i : Nat) (l : List COpV) (o : COpV) (hi : l[i]? = some o) (hlt : (i : Int) < l.length) (hn : i < 4611686018427387904) (h0 : isS o.op [118, 97, 114] = true) :
    codeW cw (lookM mtl) mds c45l0 [(1, copsA l), (2, litI .i64 n), (3, .ptr 0 0), (7, litI .i64 i)] [.row f.cs 29] = some (bif opOk f n i o then (.normal, [(1, copsA l), (2, litI .i64 n), (3, .ptr 0 0), (7, litI .i64 ((i + 1 : Nat) : Int))], [.row f.cs 29]) else (.ret, [(6, litB false)], [.row f.cs 29])) := by
  rw [show opOk f n i o = (lenI o 1 && within o.args n) by simp only [opOk, h0, bB]]
  by_cases hz : ((o.args.length : Int) == 1) = true
  case neg =>
    rw [Bool.not_eq_true] at hz
    rw [show lenI o 1 = false from hz]
    simp only [Bool.false_and, cond_false]
    simp -implicitDefEqProofs only [c45l0, aW, ↓aP, makes, reduceLT, reduceEqDiff, reduceAdd, lenV_cops, iadr_cops, hi, hlt, fadr_ip, fadr_ptr, cop_h1, cop_h0, Nat.zero_add, bin_isS, lenV_row, wrap1 hn, lenV_conts, as_f5, h0, hz]
  rw [show lenI o 1 = true from hz]
  have hl : o.args.length ≤ 1000000 := by have := eq_of_beq hz; omega
  have hW := within_call o.args none n hl
  cases hw : within o.args n with
  | true =>
    rw [hw] at hW
    simp only [Bool.true_and, cond_true]
    simp -implicitDefEqProofs only [c45l0, aW, ↓aP, makes, reduceLT, reduceEqDiff, reduceAdd, lenV_cops, iadr_cops, hi, hlt, fadr_ip, fadr_ptr, cop_h1, cop_h0, Nat.zero_add, bin_isS, lenV_row, wrap1 hn, lenV_conts, as_f5, h0, hz, hW]
  | false =>
    rw [hw] at hW
    simp only [Bool.true_and, cond_false]
    simp -implicitDefEqProofs only [c45l0, aW, ↓aP, makes, reduceLT, reduceEqDiff, reduceAdd, lenV_cops, iadr_cops, hi, hlt, fadr_ip, fadr_ptr, cop_h1, cop_h0, Nat.zero_add, bin_isS, lenV_row, wrap1 hn, lenV_conts, as_f5, h0, hz, hW]
theorem asks_round_1 (f : FlatV) (n i : Nat) (l : List COpV) (o : COpV) (hi : l[i]? = some o) (hlt : (i : Int) < l.length) (hn : i < 4611686018427387904) (h0 : isS o.op [118, 97, 114] = false) (h1 : isS o.op [99, 111, 110, 116] = true) :
    codeW cw (lookM mtl) mds c45l0 [(1, copsA l), (2, litI .i64 n), (3, .ptr 0 0), (7, litI .i64 i)] [.row f.cs 29] = some (bif opOk f n i o then (.normal, [(1, copsA l), (2, litI .i64 n), (3, .ptr 0 0), (7, litI .i64 ((i + 1 : Nat) : Int))], [.row f.cs 29]) else (.ret, [(6, litB false)], [.row f.cs 29])) := by
  rw [show opOk f n i o = (lenI o 1 && within o.args f.conts.length) by simp only [opOk, h0, h1, bB]]
  by_cases hz : ((o.args.length : Int) == 1) = true
  case neg =>
    rw [Bool.not_eq_true] at hz
    rw [show lenI o 1 = false from hz]
    simp only [Bool.false_and, cond_false]
    simp -implicitDefEqProofs only [c45l0, aW, ↓aP, makes, reduceLT, reduceEqDiff, reduceAdd, lenV_cops, iadr_cops, hi, hlt, fadr_ip, fadr_ptr, cop_h1, cop_h0, Nat.zero_add, bin_isS, lenV_row, wrap1 hn, lenV_conts, as_f5, h0, h1, hz]
  rw [show lenI o 1 = true from hz]
  have hl : o.args.length ≤ 1000000 := by have := eq_of_beq hz; omega
  have hW := within_call o.args none f.conts.length hl
  cases hw : within o.args f.conts.length with
  | true =>
    rw [hw] at hW
    simp only [Bool.true_and, cond_true]
    simp -implicitDefEqProofs only [c45l0, aW, ↓aP, makes, reduceLT, reduceEqDiff, reduceAdd, lenV_cops, iadr_cops, hi, hlt, fadr_ip, fadr_ptr, cop_h1, cop_h0, Nat.zero_add, bin_isS, lenV_row, wrap1 hn, lenV_conts, as_f5, h0, h1, hz, hW]
  | false =>
    rw [hw] at hW
    simp only [Bool.true_and, cond_false]
    simp -implicitDefEqProofs only [c45l0, aW, ↓aP, makes, reduceLT, reduceEqDiff, reduceAdd, lenV_cops, iadr_cops, hi, hlt, fadr_ip, fadr_ptr, cop_h1, cop_h0, Nat.zero_add, bin_isS, lenV_row, wrap1 hn, lenV_conts, as_f5, h0, h1, hz, hW]
theorem asks_round_2 (f : FlatV) (n i : Nat) (l : List COpV) (o : COpV) (hi : l[i]? = some o) (hlt : (i : Int) < l.length) (hn : i < 4611686018427387904) (h0 : isS o.op [118, 97, 114] = false) (h1 : isS o.op [99, 111, 110, 116] = false) (h2 : isS o.op [110, 101, 103] = true) :
    codeW cw (lookM mtl) mds c45l0 [(1, copsA l), (2, litI .i64 n), (3, .ptr 0 0), (7, litI .i64 i)] [.row f.cs 29] = some (bif opOk f n i o then (.normal, [(1, copsA l), (2, litI .i64 n), (3, .ptr 0 0), (7, litI .i64 ((i + 1 : Nat) : Int))], [.row f.cs 29]) else (.ret, [(6, litB false)], [.row f.cs 29])) := by
  rw [show opOk f n i o = (lenI o 1 && within o.args i) by simp only [opOk, h0, h1, h2, bB]]
  by_cases hz : ((o.args.length : Int) == 1) = true
  case neg =>
    rw [Bool.not_eq_true] at hz
    rw [show lenI o 1 = false from hz]
    simp only [Bool.false_and, cond_false]
    simp -implicitDefEqProofs only [c45l0, aW, ↓aP, makes, reduceLT, reduceEqDiff, reduceAdd, lenV_cops, iadr_cops, hi, hlt, fadr_ip, fadr_ptr, cop_h1, cop_h0, Nat.zero_add, bin_isS, lenV_row, wrap1 hn, lenV_conts, as_f5, h0, h1, h2, hz]
  rw [show lenI o 1 = true from hz]
  have hl : o.args.length ≤ 1000000 := by have := eq_of_beq hz; omega
  have hW := within_call o.args none i hl
  cases hw : within o.args i with
  | true =>
    rw [hw] at hW
    simp only [Bool.true_and, cond_true]
    simp -implicitDefEqProofs only [c45l0, aW, ↓aP, makes, reduceLT, reduceEqDiff, reduceAdd, lenV_cops, iadr_cops, hi, hlt, fadr_ip, fadr_ptr, cop_h1, cop_h0, Nat.zero_add, bin_isS, lenV_row, wrap1 hn, lenV_conts, as_f5, h0, h1, h2, hz, hW]
  | false =>
    rw [hw] at hW
    simp only [Bool.true_and, cond_false]
    simp -implicitDefEqProofs only [c45l0, aW, ↓aP, makes, reduceLT, reduceEqDiff, reduceAdd, lenV_cops, iadr_cops, hi, hlt, fadr_ip, fadr_ptr, cop_h1, cop_h0, Nat.zero_add, bin_isS, lenV_row, wrap1 hn, lenV_conts, as_f5, h0, h1, h2, hz, hW]
theorem asks_round_3 (f : FlatV) (n i : Nat) (l : List COpV) (o : COpV) (hi : l[i]? = some o) (hlt : (i : Int) < l.length) (hn : i < 4611686018427387904) (h0 : isS o.op [118, 97, 114] = false) (h1 : isS o.op [99, 111, 110, 116] = false) (h2 : isS o.op [110, 101, 103] = false) (h3 : isS o.op [43] = true) :
    codeW cw (lookM mtl) mds c45l0 [(1, copsA l), (2, litI .i64 n), (3, .ptr 0 0), (7, litI .i64 i)] [.row f.cs 29] = some (bif opOk f n i o then (.normal, [(1, copsA l), (2, litI .i64 n), (3, .ptr 0 0), (7, litI .i64 ((i + 1 : Nat) : Int))], [.row f.cs 29]) else (.ret, [(6, litB false)], [.row f.cs 29])) := by
  rw [show opOk f n i o = (lenI o 2 && within o.args i) by simp only [opOk, h0, h1, h2, h3, bB]]
  by_cases hz : ((o.args.length : Int) == 2) = true
  case neg =>
    rw [Bool.not_eq_true] at hz
    rw [show lenI o 2 = false from hz]
    simp only [Bool.false_and, cond_false]
    simp -implicitDefEqProofs only [c45l0, aW, ↓aP, makes, reduceLT, reduceEqDiff, reduceAdd, lenV_cops, iadr_cops, hi, hlt, fadr_ip, fadr_ptr, cop_h1, cop_h0, Nat.zero_add, bin_isS, lenV_row, wrap1 hn, lenV_conts, as_f5, h0, h1, h2, h3, hz]
  rw [show lenI o 2 = true from hz]
  have hl : o.args.length ≤ 1000000 := by have := eq_of_beq hz; omega
  have hW := within_call o.args none i hl
  cases hw : within o.args i with
  | true =>
    rw [hw] at hW
    simp only [Bool.true_and, cond_true]
    simp -implicitDefEqProofs only [c45l0, aW, ↓aP, makes, reduceLT, reduceEqDiff, reduceAdd, lenV_cops, iadr_cops, hi, hlt, fadr_ip, fadr_ptr, cop_h1, cop_h0, Nat.zero_add, bin_isS, lenV_row, wrap1 hn, lenV_conts, as_f5, h0, h1, h2, h3, hz, hW]
  | false =>
    rw [hw] at hW
    simp only [Bool.true_and, cond_false]
    simp -implicitDefEqProofs only [c45l0, aW, ↓aP, makes, reduceLT, reduceEqDiff, reduceAdd, lenV_cops, iadr_cops, hi, hlt, fadr_ip, fadr_ptr, cop_h1, cop_h0, Nat.zero_add, bin_isS, lenV_row, wrap1 hn, lenV_conts, as_f5, h0, h1, h2, h3, hz, hW]
theorem asks_round_4 (f : FlatV) (n i : Nat) (l : List COpV) (o : COpV) (hi : l[i]? = some o) (hlt : (i : Int) < l.length) (hn : i < 4611686018427387904) (h0 : isS o.op [118, 97, 114] = false) (h1 : isS o.op [99, 111, 110, 116] = false) (h2 : isS o.op [110, 101, 103] = false) (h3 : isS o.op [43] = false) (h4 : isS o.op [45] = true) :
    codeW cw (lookM mtl) mds c45l0 [(1, copsA l), (2, litI .i64 n), (3, .ptr 0 0), (7, litI .i64 i)] [.row f.cs 29] = some (bif opOk f n i o then (.normal, [(1, copsA l), (2, litI .i64 n), (3, .ptr 0 0), (7, litI .i64 ((i + 1 : Nat) : Int))], [.row f.cs 29]) else (.ret, [(6, litB false)], [.row f.cs 29])) := by
  rw [show opOk f n i o = (lenI o 2 && within o.args i) by simp only [opOk, h0, h1, h2, h3, h4, bB]]
  by_cases hz : ((o.args.length : Int) == 2) = true
  case neg =>
    rw [Bool.not_eq_true] at hz
    rw [show lenI o 2 = false from hz]
    simp only [Bool.false_and, cond_false]
    simp -implicitDefEqProofs only [c45l0, aW, ↓aP, makes, reduceLT, reduceEqDiff, reduceAdd, lenV_cops, iadr_cops, hi, hlt, fadr_ip, fadr_ptr, cop_h1, cop_h0, Nat.zero_add, bin_isS, lenV_row, wrap1 hn, lenV_conts, as_f5, h0, h1, h2, h3, h4, hz]
  rw [show lenI o 2 = true from hz]
  have hl : o.args.length ≤ 1000000 := by have := eq_of_beq hz; omega
  have hW := within_call o.args none i hl
  cases hw : within o.args i with
  | true =>
    rw [hw] at hW
    simp only [Bool.true_and, cond_true]
    simp -implicitDefEqProofs only [c45l0, aW, ↓aP, makes, reduceLT, reduceEqDiff, reduceAdd, lenV_cops, iadr_cops, hi, hlt, fadr_ip, fadr_ptr, cop_h1, cop_h0, Nat.zero_add, bin_isS, lenV_row, wrap1 hn, lenV_conts, as_f5, h0, h1, h2, h3, h4, hz, hW]
  | false =>
    rw [hw] at hW
    simp only [Bool.true_and, cond_false]
    simp -implicitDefEqProofs only [c45l0, aW, ↓aP, makes, reduceLT, reduceEqDiff, reduceAdd, lenV_cops, iadr_cops, hi, hlt, fadr_ip, fadr_ptr, cop_h1, cop_h0, Nat.zero_add, bin_isS, lenV_row, wrap1 hn, lenV_conts, as_f5, h0, h1, h2, h3, h4, hz, hW]
theorem asks_round_5 (f : FlatV) (n i : Nat) (l : List COpV) (o : COpV) (hi : l[i]? = some o) (hlt : (i : Int) < l.length) (hn : i < 4611686018427387904) (h0 : isS o.op [118, 97, 114] = false) (h1 : isS o.op [99, 111, 110, 116] = false) (h2 : isS o.op [110, 101, 103] = false) (h3 : isS o.op [43] = false) (h4 : isS o.op [45] = false) (h5 : isS o.op [47] = true) :
    codeW cw (lookM mtl) mds c45l0 [(1, copsA l), (2, litI .i64 n), (3, .ptr 0 0), (7, litI .i64 i)] [.row f.cs 29] = some (bif opOk f n i o then (.normal, [(1, copsA l), (2, litI .i64 n), (3, .ptr 0 0), (7, litI .i64 ((i + 1 : Nat) : Int))], [.row f.cs 29]) else (.ret, [(6, litB false)], [.row f.cs 29])) := by
  rw [show opOk f n i o = (lenI o 2 && within o.args i) by simp only [opOk, h0, h1, h2, h3, h4, h5, bB]]
  by_cases hz : ((o.args.length : Int) == 2) = true
  case neg =>
    rw [Bool.not_eq_true] at hz
    rw [show lenI o 2 = false from hz]
    simp only [Bool.false_and, cond_false]
    simp -implicitDefEqProofs only [c45l0, aW, ↓aP, makes, reduceLT, reduceEqDiff, reduceAdd, lenV_cops, iadr_cops, hi, hlt, fadr_ip, fadr_ptr, cop_h1, cop_h0, Nat.zero_add, bin_isS, lenV_row, wrap1 hn, lenV_conts, as_f5, h0, h1, h2, h3, h4, h5, hz]
  rw [show lenI o 2 = true from hz]
  have hl : o.args.length ≤ 1000000 := by have := eq_of_beq hz; omega
  have hW := within_call o.args none i hl
  cases hw : within o.args i with
  | true =>
    rw [hw] at hW
    simp only [Bool.true_and, cond_true]
    simp -implicitDefEqProofs only [c45l0, aW, ↓aP, makes, reduceLT, reduceEqDiff, reduceAdd, lenV_cops, iadr_cops, hi, hlt, fadr_ip, fadr_ptr, cop_h1, cop_h0, Nat.zero_add, bin_isS, lenV_row, wrap1 hn, lenV_conts, as_f5, h0, h1, h2, h3, h4, h5, hz, hW]
  | false =>
    rw [hw] at hW
    simp only [Bool.true_and, cond_false]
    simp -implicitDefEqProofs only [c45l0, aW, ↓aP, makes, reduceLT, reduceEqDiff, reduceAdd, lenV_cops, iadr_cops, hi, hlt, fadr_ip, fadr_ptr, cop_h1, cop_h0, Nat.zero_add, bin_isS, lenV_row, wrap1 hn, lenV_conts, as_f5, h0, h1, h2, h3, h4, h5, hz, hW]
theorem asks_round_6 (f : FlatV) (n i : Nat) (l : List COpV) (o : COpV) (hi : l[i]? = some o) (hlt : (i : Int) < l.length) (hn : i < 4611686018427387904) (h0 : isS o.op [118, 97, 114] = false) (h1 : isS o.op [99, 111, 110, 116] = false) (h2 : isS o.op [110, 101, 103] = false) (h3 : isS o.op [43] = false) (h4 : isS o.op [45] = false) (h5 : isS o.op [47] = false) (h6 : isS o.op [42] = true) :
    codeW cw (lookM mtl) mds c45l0 [(1, copsA l), (2, litI .i64 n), (3, .ptr 0 0), (7, litI .i64 i)] [.row f.cs 29] = some (bif opOk f n i o then (.normal, [(1, copsA l), (2, litI .i64 n), (3, .ptr 0 0), (7, litI .i64 ((i + 1 : Nat) : Int))], [.row f.cs 29]) else (.ret, [(6, litB false)], [.row f.cs 29])) := by
  rw [show opOk f n i o = (lenI o 3 && within (o.args.take 2) i && within (o.args.drop 2) 2) by simp only [opOk, h0, h1, h2, h3, h4, h5, h6, bB]]
  by_cases hz : ((o.args.length : Int) == 3) = true
  case neg =>
    rw [Bool.not_eq_true] at hz
    rw [show lenI o 3 = false from hz]
    simp only [Bool.false_and, cond_false]
    simp -implicitDefEqProofs only [c45l0, aW, ↓aP, makes, reduceLT, reduceEqDiff, reduceAdd, lenV_cops, iadr_cops, hi, hlt, fadr_ip, fadr_ptr, cop_h1, cop_h0, Nat.zero_add, bin_isS, lenV_row, wrap1 hn, lenV_conts, as_f5, h0, h1, h2, h3, h4, h5, h6, hz]
  rw [show lenI o 3 = true from hz]
  obtain ⟨x, y, z, ha⟩ := list3 o.args hz
  rw [ha] at hz ⊢
  have hW1 := within_call [x, y] none i (by simp)
  have hW2 : ∀ H id, callV cw mds 43 [rowC [z] none, litI .i64 2] H id = some (.val (litB (within [z] 2)) none) := fun H id => within_call [z] none 2 (by simp) H id
  simp only [List.take, List.drop, Bool.true_and]
  cases hw : within [x, y] i with
  | false =>
    rw [hw] at hW1
    simp only [Bool.false_and, cond_false]
    simp -implicitDefEqProofs only [c45l0, aW, ↓aP, makes, reduceLT, reduceEqDiff, reduceAdd, lenV_cops, iadr_cops, hi, hlt, fadr_ip, fadr_ptr, cop_h1, cop_h0, Nat.zero_add, bin_isS, lenV_row, wrap1 hn, lenV_conts, as_f5, h0, h1, h2, h3, h4, h5, h6, ha, sli_1, sli_2, sli_1d, sli_2d, hz, hW1]
  | true =>
  rw [hw] at hW1
  cases hv : within [z] 2 with
  | true =>
    rw [hv] at hW2
    simp only [Bool.true_and, cond_true]
    simp -implicitDefEqProofs only [c45l0, aW, ↓aP, makes, reduceLT, reduceEqDiff, reduceAdd, lenV_cops, iadr_cops, hi, hlt, fadr_ip, fadr_ptr, cop_h1, cop_h0, Nat.zero_add, bin_isS, lenV_row, wrap1 hn, lenV_conts, as_f5, h0, h1, h2, h3, h4, h5, h6, ha, sli_1, sli_2, sli_1d, sli_2d, hz, hW1, hW2]
  | false =>
    rw [hv] at hW2
    simp only [Bool.true_and, cond_false]
    simp -implicitDefEqProofs only [c45l0, aW, ↓aP, makes, reduceLT, reduceEqDiff, reduceAdd, lenV_cops, iadr_cops, hi, hlt, fadr_ip, fadr_ptr, cop_h1, cop_h0, Nat.zero_add, bin_isS, lenV_row, wrap1 hn, lenV_conts, as_f5, h0, h1, h2, h3, h4, h5, h6, ha, sli_1, sli_2, sli_1d, sli_2d, hz, hW1, hW2]
theorem asks_round_7 (f : FlatV) (n i : Nat) (l : List COpV) (o : COpV) (hi : l[i]? = some o) (hlt : (i : Int) < l.length) (hn : i < 4611686018427387904) (h0 : isS o.op [118, 97, 114] = false) (h1 : isS o.op [99, 111, 110, 116] = false) (h2 : isS o.op [110, 101, 103] = false) (h3 : isS o.op [43] = false) (h4 : isS o.op [45] = false) (h5 : isS o.op [47] = false) (h6 : isS o.op [42] = false) (h7 : isS o.op [115, 101, 108] = true) :
    codeW cw (lookM mtl) mds c45l0 [(1, copsA l), (2, litI .i64 n), (3, .ptr 0 0), (7, litI .i64 i)] [.row f.cs 29] = some (bif opOk f n i o then (.normal, [(1, copsA l), (2, litI .i64 n), (3, .ptr 0 0), (7, litI .i64 ((i + 1 : Nat) : Int))], [.row f.cs 29]) else (.ret, [(6, litB false)], [.row f.cs 29])) := by
  rw [show opOk f n i o = (lenI o 3 && within (o.args.take 1) n && within (o.args.drop 1) i) by simp only [opOk, h0, h1, h2, h3, h4, h5, h6, h7, bB]]
  by_cases hz : ((o.args.length : Int) == 3) = true
  case neg =>
    rw [Bool.not_eq_true] at hz
    rw [show lenI o 3 = false from hz]
    simp only [Bool.false_and, cond_false]
    simp -implicitDefEqProofs only [c45l0, aW, ↓aP, makes, reduceLT, reduceEqDiff, reduceAdd, lenV_cops, iadr_cops, hi, hlt, fadr_ip, fadr_ptr, cop_h1, cop_h0, Nat.zero_add, bin_isS, lenV_row, wrap1 hn, lenV_conts, as_f5, h0, h1, h2, h3, h4, h5, h6, h7, hz]
  rw [show lenI o 3 = true from hz]
  obtain ⟨x, y, z, ha⟩ := list3 o.args hz
  rw [ha] at hz ⊢
  have hW1 := within_call [x] none n (by simp)
  have hW2 := within_call [y, z] none i (by simp)
  simp only [List.take, List.drop, Bool.true_and]
  cases hw : within [x] n with
  | false =>
    rw [hw] at hW1
    simp only [Bool.false_and, cond_false]
    simp -implicitDefEqProofs only [c45l0, aW, ↓aP, makes, reduceLT, reduceEqDiff, reduceAdd, lenV_cops, iadr_cops, hi, hlt, fadr_ip, fadr_ptr, cop_h1, cop_h0, Nat.zero_add, bin_isS, lenV_row, wrap1 hn, lenV_conts, as_f5, h0, h1, h2, h3, h4, h5, h6, h7, ha, sli_1, sli_2, sli_1d, sli_2d, hz, hW1]
  | true =>
  rw [hw] at hW1
  cases hv : within [y, z] i with
  | true =>
    rw [hv] at hW2
    simp only [Bool.true_and, cond_true]
    simp -implicitDefEqProofs only [c45l0, aW, ↓aP, makes, reduceLT, reduceEqDiff, reduceAdd, lenV_cops, iadr_cops, hi, hlt, fadr_ip, fadr_ptr, cop_h1, cop_h0, Nat.zero_add, bin_isS, lenV_row, wrap1 hn, lenV_conts, as_f5, h0, h1, h2, h3, h4, h5, h6, h7, ha, sli_1, sli_2, sli_1d, sli_2d, hz, hW1, hW2]
  | false =>
    rw [hv] at hW2
    simp only [Bool.true_and, cond_false]
    simp -implicitDefEqProofs only [c45l0, aW, ↓aP, makes, reduceLT, reduceEqDiff, reduceAdd, lenV_cops, iadr_cops, hi, hlt, fadr_ip, fadr_ptr, cop_h1, cop_h0, Nat.zero_add, bin_isS, lenV_row, wrap1 hn, lenV_conts, as_f5, h0, h1, h2, h3, h4, h5, h6, h7, ha, sli_1, sli_2, sli_1d, sli_2d, hz, hW1, hW2]
theorem asks_round_8 (f : FlatV) (n i : Nat) (l : List COpV) (o : COpV) (hi : l[i]? = some o) (hlt : (i : Int) < l.length) (hn : i < 4611686018427387904) (h0 : isS o.op [118, 97, 114] = false) (h1 : isS o.op [99, 111, 110, 116] = false) (h2 : isS o.op [110, 101, 103] = false) (h3 : isS o.op [43] = false) (h4 : isS o.op [45] = false) (h5 : isS o.op [47] = false) (h6 : isS o.op [42] = false) (h7 : isS o.op [115, 101, 108] = false) :
    codeW cw (lookM mtl) mds c45l0 [(1, copsA l), (2, litI .i64 n), (3, .ptr 0 0), (7, litI .i64 i)] [.row f.cs 29] = some (bif opOk f n i o then (.normal, [(1, copsA l), (2, litI .i64 n), (3, .ptr 0 0), (7, litI .i64 ((i + 1 : Nat) : Int))], [.row f.cs 29]) else (.ret, [(6, litB false)], [.row f.cs 29])) := by
  rw [show opOk f n i o = false by simp only [opOk, h0, h1, h2, h3, h4, h5, h6, h7, bB], cond_false]
  simp -implicitDefEqProofs only [c45l0, aW, ↓aP, makes, reduceLT, reduceEqDiff, reduceAdd, lenV_cops, iadr_cops, hi, hlt, fadr_ip, fadr_ptr, cop_h1, cop_h0, Nat.zero_add, bin_isS, lenV_row, wrap1 hn, lenV_conts, as_f5, h0, h1, h2, h3, h4, h5, h6, h7]
theorem asks_round (f : FlatV) (n i : Nat) (l : List COpV) (o : COpV) (hi : l[i]? = some o) (hlt : (i : Int) < l.length) (hn : i < 4611686018427387904) :
    codeW cw (lookM mtl) mds c45l0 [(1, copsA l), (2, litI .i64 n), (3, .ptr 0 0), (7, litI .i64 i)] [.row f.cs 29] = some (bif opOk f n i o then (.normal, [(1, copsA l), (2, litI .i64 n), (3, .ptr 0 0), (7, litI .i64 ((i + 1 : Nat) : Int))], [.row f.cs 29]) else (.ret, [(6, litB false)], [.row f.cs 29])) := by
  by_cases h0 : isS o.op [118, 97, 114] = true
  · exact asks_round_0 f n i l o hi hlt hn h0
  rw [Bool.not_eq_true] at h0
  by_cases h1 : isS o.op [99, 111, 110, 116] = true
  · exact asks_round_1 f n i l o hi hlt hn h0 h1
  rw [Bool.not_eq_true] at h1
  by_cases h2 : isS o.op [110, 101, 103] = true
  · exact asks_round_2 f n i l o hi hlt hn h0 h1 h2
  rw [Bool.not_eq_true] at h2
  by_cases h3 : isS o.op [43] = true
  · exact asks_round_3 f n i l o hi hlt hn h0 h1 h2 h3
  rw [Bool.not_eq_true] at h3
  by_cases h4 : isS o.op [45] = true
  · exact asks_round_4 f n i l o hi hlt hn h0 h1 h2 h3 h4
  rw [Bool.not_eq_true] at h4
  by_cases h5 : isS o.op [47] = true
  · exact asks_round_5 f n i l o hi hlt hn h0 h1 h2 h3 h4 h5
  rw [Bool.not_eq_true] at h5
  by_cases h6 : isS o.op [42] = true
  · exact asks_round_6 f n i l o hi hlt hn h0 h1 h2 h3 h4 h5 h6
  rw [Bool.not_eq_true] at h6
  by_cases h7 : isS o.op [115, 101, 108] = true
  · exact asks_round_7 f n i l o hi hlt hn h0 h1 h2 h3 h4 h5 h6 h7
  rw [Bool.not_eq_true] at h7
  exact asks_round_8 f n i l o hi hlt hn h0 h1 h2 h3 h4 h5 h6 h7
theorem asks_loop (f : FlatV) (n : Nat) (l : List COpV) (hl : l.length ≤ 1000000) : ∀ (m i : Nat), m + i = l.length →
    loopW (codeW cw (lookM mtl) mds c45l0) [1, 2, 3, 7] [(1, copsA l), (2, litI .i64 n), (3, .ptr 0 0), (7, litI .i64 i)] [.row f.cs 29] =
      some (bif opsF f n i (l.drop i) then (EX.exit 0, [(1, copsA l), (2, litI .i64 n), (3, .ptr 0 0), (7, litI .i64 l.length), (13, litB false)], [.row f.cs 29]) else (.ret, [(6, litB false)], [.row f.cs 29]))
  | 0, i, h => by
    have hn : i = l.length := by omega
    subst hn
    rw [List.drop_length, opsF, cond_true]
    refine loopW_out ?_ (by simp)
    simp -implicitDefEqProofs only [c45l0, aW, ↓aP, makes, reduceLT, reduceEqDiff, reduceAdd, lenV_cops, Int.lt_irrefl]
  | m + 1, i, h => by
    have hn : i < l.length := by omega
    have hg : l[i]? = some l[i] := List.getElem?_eq_getElem hn
    have hlt : (i : Int) < l.length := by omega
    have R := asks_round f n i l l[i] hg hlt (by omega)
    rw [List.drop_eq_getElem_cons hn, opsF]
    cases ho : opOk f n i l[i] with
    | true =>
      rw [ho, cond_true] at R
      rw [Bool.true_and]
      refine loopW_round ?_ (asks_loop f n l hl m (i + 1) (by omega))
      simp -implicitDefEqProofs only [aW, ↓aP, makes, reduceLT, reduceEqDiff, reduceAdd, R]
    | false =>
      rw [ho, cond_false] at R
      rw [Bool.false_and, cond_false]
      refine loopW_out ?_ (by simp)
      simp -implicitDefEqProofs only [aW, ↓aP, makes, reduceLT, reduceEqDiff, reduceAdd, R]
theorem asks_tells (f : FlatV) (n : Nat) (l : List COpV) (hl : l.length ≤ 1000000) : cw 45 [.agg f.cs, copsA l, litI .i64 n] [] = some (.ret (litB (opsOk f n l)), [.row f.cs 29]) := by
  refine cw_of fn45 (c := c45) rfl rfl rfl rfl ?_
  have L := asks_loop f n l hl l.length 0 (by omega)
  rw [List.drop_zero, show ((0 : Nat) : Int) = 0 from rfl] at L
  unfold opsOk
  cases ho : opsF f n 0 l with
  | true =>
    rw [ho, cond_true] at L
    rw [Bool.true_and]
    simp -implicitDefEqProofs only [c45, aW, ↓aP, makes, reduceLT, reduceEqDiff, reduceAdd, core_box, rt_b8 f, List.length_nil, L, lenV_cops]
    rfl
  | false =>
    rw [ho, cond_false] at L
    rw [Bool.false_and]
    simp -implicitDefEqProofs only [c45, aW, ↓aP, makes, reduceLT, reduceEqDiff, reduceAdd, core_box, rt_b8 f, List.length_nil, L]
    rfl
theorem asks_call (f : FlatV) (n : Nat) (l : List COpV) (hl : l.length ≤ 1000000) (H : List AO) (id : Nat) : callV cw mds 45 [.agg f.cs, copsA l, litI .i64 n] H id = some (.val (litB (opsOk f n l)) none) := callV_pureA rfl rfl (asks_tells f n l hl) rfl
end
end Go.Proofs.Ytcgbdndkfonphaa.Ai
